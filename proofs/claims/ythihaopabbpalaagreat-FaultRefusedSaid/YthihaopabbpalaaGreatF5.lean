import Derived.Test.YthihaopabbpalaaGreatF4
import Derived.BigQuiet
import Derived.Deep.OwnRows
import Derived.Deep.DeepCutAuto
import Derived.BigRegion
import Derived.Deep.QuietTactic
set_option linter.unusedSimpArgs false
set_option linter.unusedVariables false
set_option linter.unnecessarySimpa false
set_option maxHeartbeats 4000000
set_option maxRecDepth 100000
namespace Go.Proofs.YthihaopabbpalaaGreat
open _root_.Go.Proofs.Tryz
open Go.RowKit Go.Maps Pw
variable {P:Program} {b c g i j k p:Nat} {e t:TypeId} {l:List Int} {m:Ma} {n:Int} {o:Oper} {w:World} {x:Operand} {ρ:Operand -> Value}
def NL(m:Ma):List Int:=[bv m.m,dH m.sl,bV m.sw,bV m.dk,aR m.st]
theorem PH(C:k<5)(h:∀j,j<k->(NL m).getD j 0=0)(d:(NL m).getD k 0≠0):lG m=(NL m).getD k 0:=by
 unfold lG;have y:0<k->bv m.m=0:=λu=>h 0 u;have z:1<k->dH m.sl=0:=λu=>h 1 u;have A:2<k->bV m.sw=0:=λu=>h 2 u;have D:3<k->bV m.dk=0:=λu=>h 3 u
 match k,C with
 | 0,_=>rw[if_pos (show bv m.m≠0 from d)];rfl
 | 1,_=>rw[if_neg (by rw[y (by omega)];simp),if_pos (show dH m.sl≠0 from d)];rfl
 | 2,_=>rw[if_neg (by rw[y (by omega)];simp),if_neg (by rw[z (by omega)];simp),if_pos (show bV m.sw≠0 from d)];rfl
 | 3,_=>rw[if_neg (by rw[y (by omega)];simp),if_neg (by rw[z (by omega)];simp),if_neg (by rw[A (by omega)];simp),if_pos (show bV m.dk≠0 from d)];rfl
 | 4,_=>rw[if_neg (by rw[y (by omega)];simp),if_neg (by rw[z (by omega)];simp),if_neg (by rw[A (by omega)];simp),if_neg (by rw[D (by omega)];simp),if_pos (show aR m.st≠0 from d)];rfl
 | n+5,u=>omega
def XC(B:Nat)(H:MH):mV:=⟨λv w => ∃g,v = .slice (some ⟨g,0,none⟩) 5 5/\aG w g #[.int .i64 (bv H.m),.int .i64 (dH H.sl),.int .i64 (bV H.sw),.int .i64 (bV H.dk),.int .i64 (aR (cK H.fi H.ct))] 47,λ_ _ _ hb ⟨g,h1,h2⟩=>⟨g,h1,h2.ext hb⟩⟩
theorem vK{p:Option Cc}{c:Cc}(h:c.f<0\/(m.st.fs.length:Int)<=c.f\/c.i<0\/((aN m.st c.f).b.length:Int)<=c.i\/c.k<0\/(m.m.fs.length:Int)<=c.k):uS m p c=3:=by
 unfold uS;rw[if_pos h]
theorem PV{s:Sp}(h:il s.ar n<0):dU m s n=5:=by unfold dU;exact if_pos h
def isK(i:Int)(c:Cc):Bool:=decide (c.k=i)
theorem MV(c:Cc)(i:Int)(g:Nat)(w:World)(h:aG w g #[.int .i64 i] 3) :
  Calls Tryz.prog 85 #[.agg (xe c),.pointer (some ⟨g,0,none⟩)] w λr w'=>r = .returned (.bool (isK i c))/\Below w.heap.size w w':=by
 go_enter func85,ntmps85;go_upto_region 1 with(fail);refine iG (λW=>Code.wp _ _ _ _ W) λW0 a b d => ?_;clear d;have e:=(h.ext a).cell 0;have f:=b.cell;have u:(xe c)[2]?=some (.int .i64 c.k):=rfl;go_wp2;go_ret;exact⟨bX (by unfold isK;rfl),a⟩
theorem Ti(l:List Cc)(a:Option Addr)(c:Nat)(w:World)(A:eB w a (l.flatMap iQ))(E:l.length<=9223372036854775807)(g:Nat)(u:Int)(D:aG w g #[.int .i64 u] 3) :
  Calls Tryz.prog 131 #[.slice a l.length c,.func (.func 85) #[] #[.pointer (some ⟨g,0,none⟩)]] w λe w'=>e = .returned (.int .i64 (idx (isK u) l))/\Below w.heap.size w w':=by
 go_enter func131,ntmps131;go_wp2
 go_loopw [8] (fun i wr => ∃k:Nat,k<=l.length/\i = .int .i64 k/\Below w.heap.size w wr/\∀i (h:i<l.length),i<k->(isK u) l[i]=false) (fun i _=>l.length-(intOf i).toNat)
 case atStart=>exact⟨0,bq _,rfl,Below.refl _ _,λi _ h=>absurd h (fq _)⟩
 case round=>
  obtain⟨k,F,rfl,j,n⟩:=hrel;have C:=ae n;clear n
  by_cases y:k<l.length
  .obtain⟨b,z,rfl,p⟩:=Aa (A.below j) k y
   go_wp2_with (refine ay _ _ rfl b (z+k*3) rfl rfl _ p _ underlying122 rfl cached_size ?_)
   refine(MV l[k] u g _ (D.ext j)).mono ?_;rintro e w2 ⟨rfl,o⟩;have f:=ag j o;clear o;cases hpk:(isK u) l[k]
   .have m:=ae hpk;clear hpk;go_wp2;go_roundw
    case rel=>exact⟨k+1,by omega,by go_num,f,mM C.out y m.out⟩
    case measure=>simp[intOf];omega
   have d:=ae (uJ (isK u) l k y C.out hpk);clear hpk;go_wp2;go_ret;exact⟨aX d.out.symm,f⟩
  have d:=ae (mr (isK u) l λi h=>C.out i h (by omega));go_wp2;go_ret;exact⟨aX d.out.symm,j⟩
theorem Sr(l:List Cc)(a:Option Addr)(c:Nat)(w:World)(h:eB w a (l.flatMap iQ))(u:l.length<=9223372036854775807)(g:Nat)(d:Int)(y:aG w g #[.int .i64 d] 3) :
  Calls Tryz.prog 84 #[.slice a l.length c,.func (.func 85) #[] #[.pointer (some ⟨g,0,none⟩)]] w λe w'=>e = .returned (.bool (l.any (isK d)))/\Below w.heap.size w w':=by
 go_enter func84,ntmps84
 go_wp2_with fail
 refine(Ti l a c _ h u g d y).mono ?_;rintro e w2 ⟨rfl,b⟩;go_wp2;go_ret;exact⟨bX (pK _ _),b⟩
theorem Li(l m:List Int)(a a' : Option Addr)(c c' : Nat)(w:World)(A:eB w a (l.map gB))(hrd' : eB w a' (m.map gB))(G:l.length<=9223372036854775807)(hl' : m.length<=9223372036854775807) :
  Calls Tryz.prog 86 #[.slice a l.length c,.slice a' m.length c'] w λe w'=>e = .returned (.bool (l==m))/\Below w.heap.size w w':=by
 go_enter func86,ntmps86
 by_cases y:l.length=m.length
 .have f:((l.length:Int) != (m.length:Int))=false:=by simp[y]
  go_wp2
  go_loopw [13] (fun i wr => ∃k:Nat,k<=l.length/\i = .int .i64 k/\Below w.heap.size w wr/\∀i (h:i<l.length),i<k->l[i]=m[i]'(by omega)) (fun i _=>l.length-(intOf i).toNat)
  case atStart=>exact⟨0,bq _,rfl,Below.refl _ _,λi _ h=>absurd h (fq _)⟩
  case round=>
   obtain⟨k,I,rfl,d,D⟩:=hrel
   by_cases u:k<l.length
   .obtain⟨b,E,rfl,J⟩:=kD (A.below d) k u;obtain⟨K,C,rfl,g⟩:=kD (hrd'.below d) k (by omega);have k1:(k:Int)<(m.length:Int):=by omega
    go_wp2_with fail
    go_quiet (fail)
    by_cases z:l[k]=m[k]'(by omega)
    .have F:(l[k] != m[k]'(by omega))=false:=by simp[z]
     go_wp2;go_roundw
     case rel=>exact⟨k+1,by omega,by go_num,below_drewN d _,upto D u z⟩
     case measure=>simp[intOf];omega
    have F:(l[k] != m[k]'(by omega))=true:=by simp[z]
    go_wp2;go_ret;exact⟨bX (QU k u (by omega) z).symm,below_drewN d _⟩
   go_wp2
   all_goals
    go_ret;exact⟨bX (Rm y λi h=>D i h (by omega)).symm,d⟩
 have f:((l.length:Int) != (m.length:Int))=true:=by simp;omega
 go_wp2;go_ret;refine⟨bX ?_,Below.refl _ _⟩;symm;rw[beq_eq_false_iff_ne];rintro rfl;exact y rfl
theorem nH(n:Nat)(l:List Int):(lC n l).length=n:=by simp[lC]
theorem qO(n:Nat)(l:List Int)(i:Nat)(d:i<n):(lC n l)[i]?=some (cnt l i:Int):=by simp[lC,d]
theorem LU(l:List Int)(k i:Int):cnt (l++[k]) i=cnt l i+(if k=i then 1 else 0):=by
 rw[zN];congr 1;unfold cnt;rw[qE,List.countP_nil]
 by_cases h:k=i
 .simp[h]
 .simp[h]
theorem Fh(n:Nat)(l:List Int)(k:Nat)(d:k<n):(lC n l).set k ((cnt l k:Int)+1)=lC n (l++[(k:Int)]):=by
 apply nY;intro i;rw[oq,nH]
 by_cases e:k=i
 .subst e;rw[if_pos rfl,if_pos d,qO _ _ _ d,LU,if_pos rfl];simp
 rw[if_neg e]
 by_cases h:i<n
 .rw[qO _ _ _ h,qO _ _ _ h,LU,if_neg (by omega)];rfl
 .rw[eY (by rw[nH];omega),eY (by rw[nH];omega)]
theorem KF(n:Nat):lC n []=List.replicate n 0:=by
 unfold lC cnt;apply nY;intro i;rw[iV,qa]
 by_cases d:i<n
 .rw[rT d,if_pos d];rfl
 .rw[if_neg d,eY (by simp;omega)];rfl
theorem IC(l:List Int)(i:Int):cnt l i<=l.length:=yG
def IB(w:World)(g:Nat)(l:List Int):Prop:=aG w g (l.map gB).toArray 3
theorem GI(n:Nat):madeCells #[.int .i64 0] n=((List.replicate n (0:Int)).map gB).toArray:=by
 apply Array.ext
 .simp[size_madeCells]
 intro i d h2;simp[madeCells,gB,Nat.mod_one]
theorem IB.cell(h:IB w g l){v:Int}(d:l[k]?=some v):w.cell? ⟨g,k,none⟩=some (.int .i64 v):=by
 have:=aG.cell h k;rw[this];simp[d,gB]
theorem IB.set{v:Int}(d:k<l.length):bJ (l.map gB).toArray k [.int .i64 v]=((l.set k v).map gB).toArray:=by
 show((l.map gB).toArray).setIfInBounds k (.int .i64 v)=_;rw[AV];simp[gB]
theorem zF{r:List Int}(h:∀x∈l,x=0):firstE (l++r)=firstE r:=by
 induction l with
 | nil=>rfl
 | cons a l ih=>
  have u:=h a iM;rw[IQ];rw[firstE,u];simp only[if_true,ne_eq,not_true_eq_false,if_false];exact ih λx d=>h x (jW _ d)
theorem QY{x:Int}{r:List Int}(h:x≠0):firstE (x::r)=x:=by
 rw[firstE];simp[h]
theorem Nu{s:Sp}(z:m.sp[p]?=some s)(A:(aT s.tb)[j]?=some n)(C:∀t∈m.sp.take p,∀i∈aT t.tb,dU m t i=0)(h2:∀i∈(aT s.tb).take j,dU m s i=0)(h:dU m s n≠0):nI m=dU m s n:=by
 unfold nI;have E:m.sp=m.sp.take p++s::m.sp.drop (p+1):=by rw[<-drop_at z,rX]
 have D:aT s.tb=(aT s.tb).take j++n::(aT s.tb).drop (j+1):=by rw[<-drop_at A,rX]
 rw[E,fI,zF (λx d => ?_),nX,D,jJ,jN,zF (λx d => ?_),bQ,IQ,QY h]
 .obtain⟨i,u,rfl⟩:=eU.1 d;exact h2 i u
 obtain⟨t,y,d⟩:=jV.1 d;obtain⟨i,u,rfl⟩:=eU.1 d;exact C t y i u
theorem KN(h:∀t∈m.sp,∀i∈aT t.tb,dU m t i=0):nI m=0:=by
 unfold nI;rw[<-oZ (m.sp.flatMap _),zF (λx d => ?_)]
 .rfl
 obtain⟨t,u,d⟩:=jV.1 d;obtain⟨i,y,rfl⟩:=eU.1 d;exact h t u i y
theorem UA{s:Sp}(h:dU m s n=0):((dK s.tb n).k=2->(dK s.tb n).n<m.sl.length)/\((dK s.tb n).k≠2->(dK s.tb n).n<m.m.fs.length):=by
 unfold dU at h;split at h
 .cases h
 simp only at h;split at h
 .rename_i h2;split at h
  .cases h
  rename_i u;exact⟨λ_=>by omega,λd=>absurd h2 d⟩
 rename_i h2;split at h
 .cases h
 .exact⟨λd=>absurd d h2,λ_=>by omega⟩
def mW(m:Ma)(p:Nat)(l:List Int):List Int:=m.ca.map Cc.k++(m.sp.take p).flatMap (λs=>pG s.tb (aT s.tb))++l
def kW(m:Ma)(p:Nat)(l:List Int):List Int:=(m.sp.take p).flatMap (λs=>swapT s.tb (aT s.tb))++l
theorem Rf(t:Tb)(l:List Int)(n:Int):pG t (l++[n])=pG t l++(if(dK t n).k=1 then[(dK t n).n]else[]):=by
 unfold pG;rw[rP,jJ];congr 1
 by_cases h:(dK t n).k=1
 .simp[h]
 .simp[h]
theorem QE(t:Tb)(l:List Int)(n:Int):swapT t (l++[n])=swapT t l++(if(dK t n).k=1 then[]else[(dK t n).n]):=by
 unfold swapT;rw[rP,jJ];congr 1
 by_cases h:(dK t n).k=1
 .simp[h]
 .simp[h]
theorem MZ{s:Sp}(d:m.sp[p]?=some s):mW m p (pG s.tb (aT s.tb))=mW m (p+1) []:=by
 unfold mW;rw[take_at d,fI,oZ,jN];simp
theorem Lj{s:Sp}(d:m.sp[p]?=some s):kW m p (swapT s.tb (aT s.tb))=kW m (p+1) []:=by
 unfold kW;rw[take_at d,fI,oZ];simp
theorem Qa(m:Ma):mW m m.sp.length []=vG m:=by unfold mW vG;rw[yB,oZ]
theorem Ms(m:Ma):kW m m.sp.length []=qJ m:=by unfold kW qJ;rw[yB,oZ]
theorem MO(m:Ma)(p:Nat)(l:List Int)(k:Int):mW m p (l++[k])=mW m p l++[k]:=by unfold mW;rw[jN,jN,jN]
theorem KC(m:Ma)(p:Nat)(l:List Int)(k:Int):kW m p (l++[k])=kW m p l++[k]:=by unfold kW;rw[jN]
theorem BR(t:Tb)(l:List Int):(pG t l).length<=l.length:=by unfold pG;rw[dV];exact zL _ _
theorem Ig(t:Tb)(l:List Int):(swapT t l).length<=l.length:=by unfold swapT;rw[dV];exact zL _ _
theorem flat_len{α:Type}(g:α->List Int)(c:Nat)(h:∀x,(g x).length<=c):∀l:List α,(l.flatMap g).length<=c*l.length
 | []=>by simp
 | x::l=>by have d:=flat_len g c h l;have h2:=h x;rw[nX,jk,lF,Jy];omega
theorem vW(t:Tb):(aT t).length<=64:=tK t 64
theorem Qj(m:Ma)(p:Nat)(l:List Int):(mW m p l).length<=m.ca.length+64*m.sp.length+l.length:=by
 unfold mW;have d:=flat_len (λs:Sp=>pG s.tb (aT s.tb)) 64 (λs=>bi (BR _ _) (vW _)) (m.sp.take p);have h2:(m.sp.take p).length<=m.sp.length:=by rw[iO];omega
 simp only[jk,dV];omega
theorem Qo(h:uK m)(p:Nat)(l:List Int)(K:Int):cnt (mW m p l) K<=1+64*m.sp.length+l.length:=by
 unfold mW;rw[zN,zN];have A:=flat_len (λs:Sp=>pG s.tb (aT s.tb)) 64 (λs=>bi (BR _ _) (vW _)) (m.sp.take p);have h2:(m.sp.take p).length<=m.sp.length:=by rw[iO];omega
 have z:cnt (m.ca.map Cc.k) K=tY m K:=by unfold cnt tY;rw[ww];rfl
 have y:=Ub h K;have u:=IC ((m.sp.take p).flatMap λs=>pG s.tb (aT s.tb)) K;have d:=IC l K;omega
theorem NE(m:Ma)(p:Nat)(l:List Int):(kW m p l).length<=64*m.sp.length+l.length:=by
 unfold kW;have d:=flat_len (λs:Sp=>swapT s.tb (aT s.tb)) 64 (λs=>bi (Ig _ _) (vW _)) (m.sp.take p);have h2:(m.sp.take p).length<=m.sp.length:=by rw[iO];omega
 simp only[jk];omega
theorem Oo(w:World)(d u:Array Value)(h y:TypeId):Below w.heap.size w ((w.alloc (.cells d h)).alloc (.cells u y)).drew/\aG ((w.alloc (.cells d h)).alloc (.cells u y)).drew w.heap.size d h/\aG ((w.alloc (.cells d h)).alloc (.cells u y)).drew (w.heap.size+1) u y:=by
 have e:(w.alloc (.cells d h)).heap.size=w.heap.size+1:=Dq _;have z:Below w.heap.size w ((w.alloc (.cells d h)).alloc (.cells u y)):=((Below.refl _ _).alloc (az _) _).alloc (by omega) _;have h2:aG ((w.alloc (.cells d h)).alloc (.cells u y)) w.heap.size d h:=(aG.new w d h).ext ((Below.refl _ _).alloc (az _) _);have A:aG ((w.alloc (.cells d h)).alloc (.cells u y)) (w.heap.size+1) u y:=by rw[<-e];exact aG.new _ _ _
 exact⟨⟨z.os,z.tape,z.output,z.size,z.block⟩,h2,A⟩
theorem int_one:(Tryz.prog.info? 3).map (·.size)=some 1:=by kernel_rfl
theorem int_inf:(Tryz.prog.info? 3).map (λi=>(i.zero,i.size,i.bytes))=some (some (.int .i64 0),1,8):=by kernel_rfl
theorem KU{y:Operand}{n:Nat}{k:IntKind}(A:o.op = .indexAddr t x y)(h:ρ x = .slice (some ⟨b,0,none⟩) n c)(d:ρ y = .int k (i:Int))(C:i<n)
 (u:P.underlying t=some (.slice e)) (z:(P.info? e).map (·.size)=some 1):(execOp ρ o).run P w = .ok (.value (.pointer (some ⟨b,i,none⟩))) w:=by
 have:=cO (w:=w) A h d C u z;rw[this];simp
def FV(m:Ma)(i:Nat):Bool:=decide ((jv m i).r=cnt (vG m) i)&&(decide ((jv m i).f<0)||m.ca.any λc=>decide (c.k=i))
theorem LF(m:Ma):countB m=((List.range m.m.fs.length).all (FV m)&&decide (m.sl=lC m.sl.length (qJ m))):=rfl
theorem KE(h:countB m=true)(k:Nat)(d:k<m.m.fs.length):FV m k=true:=by
 rw[LF,dW,fA]at h;exact h.1 k (dG.2 d)
end Go.Proofs.YthihaopabbpalaaGreat
namespace Pw
open Go Go.RowKit
variable {P:Program} {Q:Exit -> Act -> World -> Prop} {a0:Act} {i id:Nat} {o:Oper} {ops:Array Oper} {v:Value} {w w0:World}
theorem wp_mono'{a:Act}{K K' : Act->World->Prop}(h:∀v D w,K (Act.put { a with defers:=D } o.dst v) w->K' (Act.put { a with defers:=D } o.dst v) w)
 (d:o.wp P a w K Q):o.wp P a w K' Q:=by
 unfold Oper.wp at *
 generalize (execOp a.eval o).run P w=r at *
 cases r with
 | ok n w'=>
  cases n<;>simp only[Oper.upon]at d ⊢ <;>
   first
    | exact h _ a.defers _ d
    | exact h _ _ _ d
    | exact xZ d (λe y u=>by cases e<;>first | exact h _ a.defers _ u | exact u)
    | exact Rows.mono d (λ_ _ u=>h _ a.defers _ u)
 | halt x w'=>cases x<;>simp only[Oper.upon]at d ⊢<;>exact d
def Cy(v:Value)(o:Oper):Oper:={ o with op:=.move (.const v) }
def freed(ops:Array Oper)(p:Nat)(v:Value):Array Oper:=ops.modify p (Cy v)
theorem BH(ops:Array Oper)(p:Nat)(v:Value)(i:Nat):(freed ops p v)[i]?=if p=i then(ops[i]?).map (Cy v)else ops[i]?:=by
 unfold freed;rw[Array.getElem?_modify]
theorem Es(ops:Array Oper)(p:Nat)(v:Value):(freed ops p v).size=ops.size:=by unfold freed;simp
theorem CP(ops:Array Oper)(p:Nat)(v:Value)(d:Array Bool):Region.ready .any (freed ops p v) d=Region.ready .any ops d:=by
 unfold Region.ready;rw[Es];apply List.filter_congr;intro i _;congr 1;rw[BH]
 by_cases e:p=i
 .rw[if_pos e];cases ops[i]?<;>rfl
 .rw[if_neg e]
theorem Gt(ops:Array Oper)(p:Nat)(v:Value)(ts:Array Value):yielded (freed ops p v) ts=yielded ops ts:=by
 funext g;unfold yielded;rw[BH]
 by_cases e:p=g
 .rw[if_pos e];cases ops[g]?<;>rfl
 .rw[if_neg e]
def Nk(ops:Array Oper)(p d:Nat):Bool:=
 (match ops[p]? with
  | some o=>(match o.op with
   | .move (.tmp t)=>decide (t=d)&&o.guard.isNone&&decide (o.dst≠some d)
   | _=>false)
  | none=>false) &&
 (List.range ops.size).all λi=>match ops[i]? with
  | none=>true
  | some o=>decide (o.dst≠some d)||o.after.toList.any λe=>decide (e.on=p)&&Region.binds .any e
theorem Ls{a:Act}{D:List Deferred}{u:Option Tmp}{d:Nat}(h:u≠some d):(Act.put { a with defers:=D } u v).eval (.tmp d)=a.eval (.tmp d):=by
 cases u with
 | none=>rfl
 | some t=>
  have y:t≠d:=λe=>h (by rw[e]);simp[Act.put,Act.eval,Al,y]
theorem Mh{d:Array Bool}(z:i∈Region.ready .any ops d)(y:ops[i]?=some o):d.getD i false=false/\∀e∈o.after,Region.binds .any e=true->d.getD e.on false=true:=by
 obtain⟨u,A,a,h2⟩:=mem_ready.1 z;rw[y]at a;cases a;refine⟨?_,h2⟩;rw[dh]at u ⊢;cases h:d[i]? with
 | none=>rfl
 | some b=>rw[h]at u;exact u
theorem Bq{P:Program}{ops:Array Oper}{Q:Exit->Act->World->Prop}{p d:Nat}{v:Value}(E:Nk ops p d=true):∀(y:Nat) (u:Array Bool) (a:Act) (w:World),(u.getD p false=false->a.eval (.tmp d)=v)->wpAny P .any (freed ops p v) Q y u a w->wpAny P .any ops Q y u a w
 | 0,u,a,w,hI,h=>by unfold wpAny at h ⊢;rw[CP]at h;exact h
 | y+1,u,a,w,hI,h=>by
  unfold wpAny at h ⊢;rw[CP]at h;refine⟨h.1,λi Z => ?_⟩;have A:=h.2 i Z;have J:(u.setIfInBounds i true).getD p false=false->u.getD p false=false:=λG=>by
   cases hl:u.getD p false with
   | false=>rfl
   | true=>
    exfalso
    by_cases hs:i<u.size
    .rw[yn hs p hl]at G; cases G
    have e:u.setIfInBounds i true=u:=by rw[Array.setIfInBounds_eq_of_size_le (by omega)]
    rw[e,hl]at G; cases G
  have K:=E;unfold Nk at K;rw[dW]at K;obtain⟨I,S⟩:=K;unfold wpOp at A ⊢;rw[BH,Gt]at A;cases ho:ops[i]? with
  | none=>
   rw[ho]at A;have V : wpAny P .any (freed ops p v) Q y (u.setIfInBounds i true) a w:=by
    by_cases e:p=i
    .rw[if_pos e]at A;exact A
    .rw[if_neg e]at A;exact A
   exact Bq E y _ a w (λG=>hI (J G)) V
  | some o=>
   rw[ho]at A;have M:i<ops.size:=(iX.1 ho).1;have F:=Mh Z ho
   by_cases e:p=i
   .subst e;rw[if_pos rfl]at A;simp only[rY]at A;rw[ho]at I;simp only at I;cases hop:o.op with
    | move x=>
     rw[hop]at I;cases x with
     | tmp t=>
      simp only[dW,decide_eq_true_eq]at I;obtain⟨⟨rfl,hg⟩,R⟩:=I;have O:a.eval (.tmp t)=v:=hI F.1;have N:execOp a.eval (Cy v o)=execOp a.eval o:=by unfold execOp Cy;simp only[hop];rw[O];rfl
      have C:∀(v' : Value) (D:List Deferred) (w:World),wpAny P .any (freed ops p v) Q y (u.setIfInBounds p true) (Act.put { a with defers:=D } o.dst v') w->wpAny P .any ops Q y (u.setIfInBounds p true) (Act.put { a with defers:=D } o.dst v') w:=
       λv' D w W=>Bq E y _ _ w (λ_=>by rw[Ls R];exact O) W
      simp only;have U:Region.wanted (Cy v o) (yielded ops a.tmps)=Region.wanted o (yielded ops a.tmps):=rfl;rw[U]at A;split
      .rename_i z;rw[if_pos z]at A;rcases A with A|A
       .refine .inl (wp_mono' C ?_);unfold Oper.wp at A ⊢;rw[<-N];exact A
       refine .inr ⟨?_,A.2⟩;have:=A.1;unfold Oper.asks at this ⊢;rw[<-N];exact this
      rename_i z;rw[if_neg z]at A;exact C undef a.defers w A
     | _=>cases I
    | _=>rw[hop]at I;cases I
   rw[if_neg e]at A;simp only at A ⊢;have L:=fA.1 S i (dG.2 M);rw[ho]at L;simp only[qy,decide_eq_true_eq]at L;have C:∀(v' : Value) (D:List Deferred) (w:World),wpAny P .any (freed ops p v) Q y (u.setIfInBounds i true) (Act.put { a with defers:=D } o.dst v') w->wpAny P .any ops Q y (u.setIfInBounds i true) (Act.put { a with defers:=D } o.dst v') w:=by
    intro v' D w W;refine Bq E y _ _ w (λG => ?_) W;rcases L with h2|h2
    .rw[Ls h2];exact hI (J G)
    rw[jK]at h2;obtain⟨e',X,Y⟩:=h2;rw[dW,decide_eq_true_eq]at Y;have:=F.2 e' (nZ.1 X) Y.2;rw[Y.1]at this;rw[J G]at this;cases this
   split
   .rename_i z;rw[if_pos z]at A;exact A.imp (wp_mono' C) id
   rename_i z;rw[if_neg z]at A;exact C undef a.defers w A
def freedL:List Oper->Nat->Value->List Oper
 | [],_,_=>[]
 | o::r,0,v=>Cy v o::r
 | o::r,k+1,v=>o::freedL r k v
theorem Fg(v:Value):∀(l:List Oper) (p:Nat),l.modify p (Cy v)=freedL l p v
 | [],p=>by cases p<;>rfl
 | o::r,0=>rfl
 | o::r,k+1=>by rw[List.modify_succ_cons,Fg v r k];rfl
theorem Qv(l:List Oper)(p:Nat)(v:Value):freed ⟨l⟩ p v=⟨freedL l p v⟩:=by
 unfold freed;rw[<-Fg];simp
theorem VT{l:List Oper}(p d:Nat)(u:Value)(z:P.follows .mixedOrders=true)(A:Nk ⟨l⟩ p d=true)(y:a0.eval (.tmp d)=u)
 (h:∀ops:Array Oper,ops=(freedL l p u).toArray->wpAny P .any ops Q ops.size (Array.replicate ops.size false) a0 { w0 with drawn:=w0.drawn+1 }) :
  (Code.region id ⟨l⟩ true).wp P Q a0 w0:=by
 have h:=h _ rfl;rw[show(freedL l p u).toArray=freed ⟨l⟩ p u from(Qv l p u).symm,Es]at h;exact wp_region_any z (Bq A _ _ _ _ (λ_=>y) h)
end Pw
namespace Go.Proofs.YthihaopabbpalaaGreat
open _root_.Go.Proofs.Tryz
open Go.RowKit Go.Maps Pw
variable {B B' B0 b c ct f g i p q s sz:Nat} {H:MH} {T t:TypeId} {a:Option Addr} {bl:List Page} {cs:Array Value} {fs:List Fi} {m m':Ma} {n:Int} {ps:List PF} {sl:List Int} {v:Value} {vs xs ys:List Value} {w w' w0 w1 w2:World} {wr:Bool}
theorem Jk(l:List Cc)(a:Option Addr)(c:Nat)(w:World)(A:l.length<=c)(y:a=none->c=0)(z:eB w a (l.flatMap iQ))(F:l.length*24<=140737488355328) :
  Calls Tryz.prog 61 #[.slice a l.length c] w λe w' => ∃v,e = .returned v/\Own w' w.heap.size 122 3 v l.length (l.flatMap iQ)/\Below w.heap.size w w':=by
 cases a with
 | none=>
  have G:=y rfl;have D:l=[]:=kU (by omega);subst D;subst G;have C:=λW=>ni (P:=Tryz.prog) W 42 _ none 0 0 0 0 underlying42;go_enter func61,ntmps61;go_wp2;go_ret;exact⟨_,rfl,by simpa using Own.nil _ _ _ _,Below.refl _ _⟩
 | some ad=>
  have C:=λW=>ni (P:=Tryz.prog) W 42 _ (some ad) l.length c 0 0 underlying42;go_enter func61,ntmps61
  go_wp2_with (at_builtin;go_must (refine fT rfl _ _ 42 rfl w.heap.size 122 (.agg #[.int .i64 0,.int .i64 0,.int .i64 0]) 3 24 underlying42 cached_info rfl (by decide) _ 0 [] rfl ?own (some ad) l.length c (l.flatMap iQ) rfl (λh=>(by cases h)) A (jC l) ?rd (yS l) (by unfold maxLen;omega) (by simpa using F) ?bb ?k))
  case own=>exact⟨rfl,.inr ⟨w.heap.size,0,0,#[],rfl,az _,aG.new _ _ _,az _,bq _,by simp,λj u h=>by simp at h⟩⟩
  case rd=>exact z.below ((Below.refl _ _).alloc (az _) _)
  case bb=>exact gU _ _
  intro v w1 b d;go_wp2;go_ret;exact⟨v,rfl,by simpa using b,((Below.refl _ _).alloc (az _) _).grown d (gU _ _) (λk E=>by cases E;exact az _)⟩
theorem Wu.fsz(h:Wu H.ma):Xt H.fi:=by
 have u:(H.fi.map PF.fi).length<=1000:=h.st.1;rw[dV]at u;refine⟨by omega,λp d => ?_⟩;have:=h.st.2 p.fi (eU.2 ⟨p,d,rfl⟩);have e:p.fi.b.length=p.l.length:=rfl;omega
theorem Wu.spz(h:Wu H.ma){p:PS}(d:p∈H.sp):p.ar.length<=1000/\Gi p.tb:=by
 obtain⟨y,h2⟩:=h.sp.2 p.sp (eU.2 ⟨p,d,rfl⟩);exact⟨y,λk u=>by have:=h2 k u;have e:p.sp.tb[k].length=p.tb[k].length:=rfl;omega⟩
def wN(w:World)(B:Nat)(p:PS)(s:Sp):Prop:=p.sp=s/\Own w B 94 7 (.slice p.aa p.ar.length p.ac) p.ar.length (p.ar.flatMap mX)/\sG w B (nT p.ts) p.tb
theorem wN.below{p:PS}{s:Sp}(h:wN w B p s)(d:Below w.heap.size w w'):wN w' B p s:=⟨h.1,h.2.1.below d,h.2.2.below d⟩
def Xd(B:Nat)(s:Sp):mV:=⟨λv w => ∃p,v = .agg (yX p)/\wN w B p s,λ_ _ _ hb ⟨p,h1,h2⟩=>⟨p,h1,h2.below hb⟩⟩
def XP(B:Nat)(s:Sp):mV:=⟨λv w => ∃g p,v = .slice (some ⟨g,0,none⟩) 1 1/\eB w (some ⟨g,0,none⟩) (tQ p)/\wN w B p s,λ_ _ _ hb ⟨g,p,h1,h2,h3⟩=>⟨g,p,h1,h2.below hb,h3.below hb⟩⟩
theorem TM{p:PS}{s:Sp}(h:wN w B p s):∀u∈tQ p,u.oneCell' = true:=by
 have y:=h.2.2.rd.one;rw[<-mO,fA]at y;intro u d;simp only[tQ,yX,dx,gW,or_false]at d;simp only[nT,dx,gW,or_false]at y;rcases d with rfl|rfl|d
 .rfl
 .rfl
 .exact y u d
theorem caO_size:(Tryz.prog.info? 42).map (·.size)=some 1:=by kernel_rfl
theorem OD{n:Nat}(h:Own w B 76 10 (.slice a n c) n xs)(d:w.grownBy w' (Value.slice a n c).ownBlock) :
  w.grownBy w' none\/∃g cs,aG w g cs 76/\B<=g/\w.grownBy w' (some g):=by
 cases hr:(Value.slice a n c).ownBlock with
 | none=>rw[hr]at d;exact .inl d
 | some g=>
  rw[hr]at d;obtain⟨cs,u⟩:=mR h g hr;exact .inr ⟨g,cs,u,h.ge g hr,d⟩
theorem jo{n m:Nat}(u:Own w B 76 10 (.slice a n c) n xs)(y:w.grownBy w' (Value.slice a n c).ownBlock)(h:Own w B' T sz v m ys)(A:T≠76):Own w' B' T sz v m ys:=by
 rcases OD u y with d|⟨g,cs,z,_,d⟩
 .exact lK h d
 .exact ax h z (λe=>A e.symm) d
theorem Be{n:Nat}(u:Own w B 76 10 (.slice a n c) n xs)(y:w.grownBy w' (Value.slice a n c).ownBlock)(h:aG w b cs T)(A:T≠76):aG w' b cs T:=by
 rcases OD u y with d|⟨g,C,z,_,d⟩
 .exact h.grown d (λe=>by cases e)
 .exact h.grown d (λe=>mD h z A (aM e).symm)
theorem VS{n:Nat}(d:Own w B 76 10 (.slice a n c) n xs)(u:w.grownBy w' (Value.slice a n c).ownBlock)(h:rz w B' v ps):rz w' B' v ps:=
 ⟨jo d u h.own (by decide),λi p y=>jo d u (h.each i p y) (by decide),h.apart⟩
theorem Ef{n:Nat}{t:Tb}(d:Own w B 76 10 (.slice a n c) n xs)(y:w.grownBy w' (Value.slice a n c).ownBlock)(h:sG w B' cs t):sG w' B' cs t:=
 ⟨h.sz,λk u=>by obtain⟨v,z,h2⟩:=h.own k u;exact⟨v,z,jo d y h2 (by decide)⟩,h.apart⟩
theorem mach_size:(Tryz.prog.info? 45).map (·.size)=some 11:=by kernel_rfl
theorem slsp_size:(Tryz.prog.info? 43).map (·.size)=some 1:=by kernel_rfl
def xz(f s b:Int):Ma:=if(0<=f/\f<=40)/\(0<=s/\s<=60)/\(0<=b/\b<=80)then⟨Np f,Po s,Fe s,Fe b,⟨[],b⟩,[],[⟨true,[],zTb⟩]⟩else zMa
def noH:MH:=⟨none,0,noM,none,0,[],none,0,none,0,⟨[],[]⟩,none,0,none,0,⟨[],[]⟩,none,0,[],0,none,0,[],none,0,[]⟩
def nTs:Vector Value 8:=⟨#[.slice none 0 0,.slice none 0 0,.slice none 0 0,.slice none 0 0,.slice none 0 0,.slice none 0 0,.slice none 0 0,.slice none 0 0],rfl⟩
structure Fb (ct:Nat) (bl:List Page) (q:List (Int × Page)) (fs:List Fi) (x:List Int):Prop where
 cl:bl.length=ct/\ct<=80
 ok:∀f∈fs,FN ct f
 nd:(lh (fs.flatMap Fi.b++x)).Nodup
 xb:∀b∈x,-1<=b/\b<ct
 tr:∀b:Int,0<=b->b<ct->b∈fs.flatMap Fi.b++x\/bl.getD b.toNat zPg=zPg
 qb:∀p∈q,p.1∈fs.flatMap Fi.b++x/\0<=p.1/\p.1<ct
 ql:q.length<=12*fs.length+x.length
theorem Fb.start(h:ct<=80):Fb ct (List.replicate ct zPg) [] [] [] where
 cl:=⟨by simp,h⟩
 ok:=λf u=>by cases u
 nd:=by simp[lh]
 xb:=λb y=>by cases y
 tr:=λb A z => .inr (by rw[aY,qa,if_pos (by omega)];rfl)
 qb:=λp d=>by cases d
 ql:=by simp
theorem Fb.none{q:List (Int × Page)}{x:List Int}(h:Fb ct bl q fs x):Fb ct bl q fs (x++[-1]) where
 cl:=h.cl
 ok:=h.ok
 nd:=by
  have e:lh (fs.flatMap Fi.b++(x++[-1]))=lh (fs.flatMap Fi.b++x):=by rw[<-jN,vC];simp[lh]
  rw[e];exact h.nd
 xb:=λb d=>by
  rcases gH.1 d with d|d
  .exact h.xb b d
  .rw[bB.1 d];omega
 tr:=λb z y=>(h.tr b z y).imp (λd=>by rw[<-jN];exact qg _ d) id
 qb:=λp u=>⟨by rw[<-jN];exact qg _ (h.qb p u).1,(h.qb p u).2⟩
 ql:=by have:=h.ql;simp;omega
theorem Fb.some{q:List (Int × Page)}{x:List Int}(h:Fb ct bl q fs x){n:Nat}(D:n<ct)(y:¬(n:Int)∈fs.flatMap Fi.b++x)(P:Page):Fb ct (bl.set n P) q fs (x++[(n:Int)]) where
 cl:=⟨by rw[bL];exact h.cl.1,h.cl.2⟩
 ok:=h.ok
 nd:=by
  have e:lh (fs.flatMap Fi.b++(x++[(n:Int)]))=lh (fs.flatMap Fi.b++x)++[(n:Int)]:=by rw[<-jN,vC];simp[lh]
  rw[e];refine wJ.2 ⟨h.nd,by simp,λa z b d e => ?_⟩;rw[bB.1 d]at e;subst e;exact y (jP.1 z).1
 xb:=λb d=>by
  rcases gH.1 d with d|d
  .exact h.xb b d
  .rw[bB.1 d];omega
 tr:=λb C A=>by
  by_cases e:b=(n:Int)
  .subst e;exact .inl (by simp)
  rcases h.tr b C A with d|d
  .exact .inl (by rw[<-jN];exact qg _ d)
  refine .inr ?_;rw[aY,uw (by omega),<-aY];exact d
 qb:=λp u=>⟨by rw[<-jN];exact qg _ (h.qb p u).1,(h.qb p u).2⟩
 ql:=by have:=h.ql;simp;omega
theorem Fb.wait{q:List (Int × Page)}{x:List Int}(h:Fb ct bl q fs x){n:Nat}(y:n<ct)(u:¬(n:Int)∈fs.flatMap Fi.b++x)(P:Page):Fb ct (bl.set n P) (q++[((n:Int),P)]) fs (x++[(n:Int)]):=
 have k:=h.some y u P
 { k with
  qb:=λp d=>by
   rcases gH.1 d with d|d
   .exact k.qb p d
   rw[bB.1 d];exact⟨by simp,by show(0:Int)<=n;omega,by show(n:Int)<ct;omega⟩
  ql:=by have:=h.ql;simp;omega }
theorem Fb.file{q:List (Int × Page)}{x:List Int}(h:Fb ct bl q fs x){s:Int}(A:0<=s)(z:s<=96)(u:(x.length:Int)=fw s):Fb ct bl q (fs++[⟨s,x⟩]) []:=by
 have e:(fs++[(⟨s,x⟩:Fi)]).flatMap Fi.b++[]=fs.flatMap Fi.b++x:=by simp
 refine⟨h.cl,λf d => ?_,by rw[e];exact h.nd,λb y=>(by cases y),by rw[e];exact h.tr,by rw[e];exact h.qb,?_⟩
 .rcases gH.1 d with d|d
  .exact h.ok f d
  .rw[bB.1 d];exact⟨A,z,u,h.xb⟩
 have:=h.ql;have D:fw s<=12:=by unfold fw;split<;>omega
 have C:(fs++[(⟨s,x⟩:Fi)]).length=fs.length+1:=by simp
 rw[C];simp only[DW];omega
def Cn(f s ct:Nat)(bl:List Page)(q:List (Int × Page))(fs:List Fi):Ma:=⟨⟨List.replicate f frZ,0⟩,List.replicate s 0,⟨List.replicate s zPg,[]⟩,⟨bl,q⟩,⟨fs,ct⟩,[],[]⟩
theorem Fb.bd{q:List (Int × Page)}(h:Fb ct bl q fs [])(K:fs.length<=5)(M:f<=40)(z:s<=60):Bd (Cn f s ct bl q fs) []:=by
 have a:∀i,i<f->aD (Cn f s ct bl q fs) i=frZ:=λi A=>by unfold aD Cn;rw[aY,qa,if_pos A];rfl
 have g:∀p n,(ent (Cn f s ct bl q fs) p n).k=0:=λp n=>by unfold ent;rw[qA (by simp[Cn])];show(dK zTb n).k=0;rw[yE];rfl
 have G:aR ⟨fs,(ct:Int)⟩=0:=mJ.2 ⟨⟨K,by show(0:Int)<=ct;omega,by show(ct:Int)<=80;have:=h.cl.2;omega⟩,h.ok,by have:=h.nd;rw[oZ]at this;exact this⟩;have o:bV ⟨bl,q⟩=0:=(jL _).2 ⟨by show bl.length<=80;have:=h.cl;omega,by show q.length<=400;have:=h.ql;simp only[DW]at this;omega,λx y=>by have:=(h.qb x y).2;have e:bl.length=ct:=h.cl.1;show 0<=x.1/\x.1<(bl.length:Int);omega⟩;have j:bV ⟨List.replicate s zPg,[]⟩=0:=(jL _).2 ⟨by simp;omega,by simp,λx y=>(by cases y)⟩;have l:dH (List.replicate s (0:Int))=0:=He (by simp;exact z) λx y=>by rw[(Dl.1 y).2];decide
 have J:bv ⟨List.replicate f frZ,0⟩=0:=(dO _).2 ⟨by simp;exact M,λx y=>by rw[(Dl.1 y).2];decide,ul _,.inl rfl⟩;have d:fe (Cn f s ct bl q fs) []=Cn f s ct bl q fs:=rfl;have E:∀kd i,bO (Cn f s ct bl q fs) kd i=0:=λ_ _=>rfl;have u:∀i,tY (Cn f s ct bl q fs) i=0:=λ_=>rfl;refine⟨⟨rfl,λt D=>(by cases D),λt D=>(by cases D)⟩,?_,?_⟩
 .rw[d];refine⟨⟨J,l,j,o,G,by simp[Cn],by have:=h.cl.1;show(bl.length:Int)=ct;omega,by simp[Cn],λs z=>(by cases z),λs z=>(by cases z)⟩,⟨λb C N => ?_,λp I => ?_⟩,λp _=>⟨by rw[qA (by simp[Cn])];rfl,λn=>g p n⟩,⟨λc u=>(by cases u),λc u=>(by cases u),λc u=>(by cases u),List.Pairwise.nil⟩,λp n L=>absurd (g p n) L,λi A => ?_,λi A C => ?_,λi A => ?_⟩
  .have e:(Cn f s ct bl q fs).dk.blocks.length=ct:=h.cl.1;have:=h.tr b C (by omega);rw[oZ]at this;exact this
  .have:=(h.qb p I).1;rw[oZ]at this;exact this
  .rw[a i (by have e:(Cn f s ct bl q fs).m.fs.length=f:=kL;omega),E,u];rfl
  .rw[a i (by have e:(Cn f s ct bl q fs).m.fs.length=f:=kL;omega)]at C;exact absurd C (by decide)
  rw[E];have e:(Cn f s ct bl q fs).sl.length=s:=kL;unfold jS;show(List.replicate s (0:Int)).getD i 0=_;rw[aY,qa,if_pos (by omega)];rfl
 rw[d];refine⟨λc u=>(by cases u),λc u=>(by cases u),λi A F => ?_⟩;rw[a i (by have e:(Cn f s ct bl q fs).m.fs.length=f:=kL;omega)]at F;exact absurd F (by decide)
def tabs(m:Ma)(T:List (List En)):Nat->Ma
 | 0=>m
 | q+1=>setTb (tabs m T q) q (ig (fO T q))
theorem take_set{α:Type}{F O:List α}(u:F.length=O.length)(d:q<O.length):(F.take q++O.drop q).set q (F[q]'(by omega))=F.take (q+1)++O.drop (q+1):=by
 have h:(F.take q).length=q:=by rw[iO];omega
 rw[List.set_append,if_neg (by omega),h,qx,vY d,qD,List.take_succ_eq_append_getElem (by omega),jN];rfl
theorem OI{m:Ma}{T:List (List En)}:∀q,q<=m.sp.length->tabs m T q = { m with sp:=(fe m T).sp.take q++m.sp.drop q }
 | 0,_=>by simp[tabs]
 | q+1,h=>by
  have y:=OI (m:=m) (T:=T) q (by omega);have A:(fe m T).sp.length=m.sp.length:=lL;have D:((fe m T).sp.take q).length=q:=by rw[iO];omega
  have d:dD (tabs m T q) q=m.sp[q]'(by omega):=by rw[y];unfold dD;show((fe m T).sp.take q++m.sp.drop q).getD q zSp=_;rw[aY,jU (by omega),D,qx,qQ,iP,aF (by omega)];rfl
  have u:(fe m T).sp[q]'(by omega) = { m.sp[q]'(by omega)with tb:=ig (fO T q) }:=by
   have z:=Bo (m:=m) (T:=T) (p:=q) (by omega);have h2:dD m q=m.sp[q]'(by omega):=by unfold dD;rw[aY,aF (by omega)];rfl
   have C:dD (fe m T) q=(fe m T).sp[q]'(by omega):=by unfold dD;rw[aY,aF (by omega)];rfl
   rw[h2,C]at z;exact z
  show setTb (tabs m T q) q (ig (fO T q))=_;unfold setTb;rw[d,y,<-u];show({ m with sp:=((fe m T).sp.take q++m.sp.drop q).set q _ }:Ma)=_;rw[take_set A (by omega)]
theorem SB{T:List (List En)}:tabs m T m.sp.length=fe m T:=by
 rw[OI _ (az _),List.drop_length,oZ,jD (by rw[lL];exact az _)];rfl
theorem Ul(z:f<=40)(y:s<=60)(A:ct<=80):fe { Cn f s ct (List.replicate ct zPg) [] []with sp:=[⟨true,[],zTb⟩] } [List.replicate 64 zEn]=xz f s ct:=by
 have u:xz f s ct=⟨Np f,Po s,Fe s,Fe ct,⟨[],ct⟩,[],[⟨true,[],zTb⟩]⟩:=if_pos ⟨⟨by omega,by omega⟩,⟨by omega,by omega⟩,by omega,by omega⟩;have d:ig (List.replicate 64 zEn)=zTb:=by decide +kernel
 rw[u];unfold Np Po Fe fe Cn;rw[if_pos (by omega),if_pos (by omega),if_pos (by omega),if_pos (by omega)];simp only[bu,lF,DW];have h:ig (fO [List.replicate 64 zEn] 0)=zTb:=d;show(⟨⟨List.replicate f frZ,0⟩,List.replicate s 0,⟨List.replicate s zPg,[]⟩,⟨List.replicate ct zPg,[]⟩,⟨[],ct⟩,[],[⟨true,[],ig (fO [List.replicate 64 zEn] 0)⟩]⟩:Ma)=_;rw[h]
theorem Gv(h:Below B w0 w1)(h' : Below B' w1 w2)(u:B<=B')(y:B<=w0.heap.size):Below B w0 w2:=
 ⟨h'.os.trans h.os,h'.tape.trans h.tape,h'.output.trans h.output,bi h.size h'.size,λx d=>(h'.block x (oL d u)).trans (h.block x d)⟩
theorem vX(h:Rt m):Wu m:=by
 have d:=h.pt;have A:=(jL _).1 d.sw;have C:=(jL _).1 d.dk;have a:=(lZ d.st).1;refine⟨by have:=((dO _).1 d.fr).1;omega,by have:=lu d.sl;omega,by omega,by omega,by omega,by omega,⟨by omega,λf z=>by have:=yu d.st f z;omega⟩,by have:=Sv h.ca d.st;omega,by have:=d.spl;omega,λs u=>⟨?_,λk y => ?_⟩⟩
 .have:=(iZ.1 (d.ar s u)).1;omega
 .have:=qc (mQ (d.tb s u) k y);omega
theorem Wt{o:Nat}{P:PS}(h:eB w (some ⟨g,o,none⟩) (tQ P)):w.cell? ⟨g,o+1,none⟩=some (.slice P.aa P.ar.length P.ac):=by
 obtain⟨u,d,e',a⟩:=h 1 _ rfl;cases e';exact a
theorem Mq(H:MH)(e f i:Int)(B b:Nat)(w:World)(h:lH w B b H e)(y:Rt H.ma)(u:qK H.ma.st f i) :
  Calls Tryz.prog 93 #[.pointer (some ⟨b,0,none⟩),.int .i64 f,.int .i64 i] w λr w'=>r = .returned (.int .i64 (fu ⟨H.ma,e⟩ f i).2)/\KR w B b H w' (fu ⟨H.ma,e⟩ f i).1:=by
 have z:=vX y;obtain⟨F,rfl⟩:∃F:Nat,f=F:=⟨f.toNat,by have:=u.1;omega⟩;obtain⟨I,rfl⟩:∃I:Nat,i=I:=⟨i.toNat,by have:=u.2;omega⟩;have E:F<H.fi.length:=by have:=u.1.2;have J:H.ma.st.fs.length=H.fi.length:=dV _;omega
 obtain⟨P,C⟩:∃P,H.fi[F]?=some P:=⟨_,aF E⟩;have g:aN H.ma.st F=P.fi:=iE (by show(H.fi.map PF.fi)[F]?=_;rw[iV,C];rfl);have A:=sM u;rw[g,bu]at A;have d:=zu y.pt.st u;have a:=vN y.pt.st u.1;rw[g]at d a;have j:=block_lt y.pt.st u;refine KI H e F I P _ B b w h C A ⟨a.1,by have:P.n<=96:=a.2.1;omega⟩ (by omega) (λc D=>y.ca.lt c D) (λG => ?_) (by have:=z.sp.1;rwa [tV]at this) z.ca z.fs;rw[jG];have:=y.pt.dkl;exact⟨y.pt.dk,G,by show _<(H.ma.dk.blocks.length:Int);omega⟩
theorem Ry(ps:List PF)(k:Int)(f i:Int)(a:Option Addr)(c:Nat)(w:World)(h:Mg w a c ps)(E:0<=f/\f<(ps.length:Int))(y:(aN (cK ps k) f).n<=9223372036854775807) :
  Calls Tryz.prog 43 #[.agg (MJ a ps.length c k),.int .i64 f,.int .i64 i] w λr w'=>r = .returned (.bool (pq (cK ps k) f i))/\Below w.heap.size w w':=by
 obtain⟨F,rfl⟩:∃F:Nat,f=F:=⟨f.toNat,by omega⟩;have z:F<ps.length:=by omega
 have b:aN (cK ps k) F=(ps[F]).fi:=iE (by show(ps.map PF.fi)[F]?=_;rw[iV,aF z];rfl);have C:Hid (pq (cK ps k) F i=decide (fw (ps[F]).n<=i)):=ae (by unfold pq;rw[b];rfl);rw[b]at y;unfold MJ;go_enter func43,ntmps43;go_upto_region 1 with(fail);refine iG (λW=>Code.wp _ _ _ _ W) λw1 d A e => ?_;obtain⟨I,D,P,rfl,u,g,_⟩:=xP (h.below d).rd F z;rw[aF z]at u;have u:=aM u;rw[u]at C y;have G:=A.cell;have j:(F:Int)<(ps.length:Int):=by omega
 clear b u h
 go_wp2_with fail
 refine(Cm P.n _ y).mono ?_;rintro r w2 ⟨rfl,rfl⟩;go_wp2;go_ret;rw[C.out];exact⟨rfl,d⟩
def Gj(m:Ma)(p:Nat)(n:Int)(w:Bool):Ar:=if pQ m p n w≠0 then zAr else kQ m p n
theorem xN(a:Ar):(ky a).all (·.oneCell')=true:=by simp[ky,Value.oneCell']
theorem kP : (Tryz.prog.info? 94).map (·.size)=some 7:=by kernel_rfl
theorem TG(H:MH)(e n:Int)(p:Nat)(wr:Bool)(B b:Nat)(w:World)(h:lH w B b H e)(hp:p<H.sp.length) :
    Calls Tryz.prog 41 #[.pointer (some ⟨b,0,none⟩),.int .i64 p,.int .i64 n,.bool wr] w λr w'=>r = .returned (.tuple #[.agg (ky (Gj H.ma p n wr)),.int .i64 (pQ H.ma p n wr)])/\Below w.heap.size w w':=by
  obtain⟨P,U⟩:∃P,H.sp[p]?=some P:=⟨_,aF hp⟩;have x:=ae (pV U);have hr:(p:Int)<(H.sp.length:Int):=by omega
  go_enter func41,ntmps41;go_upto_region 1 with(fail);refine iG (λW=>Code.wp _ _ _ _ W) λw1 O K hl => ?_;have k1:=h.below O;clear h;obtain⟨g,L,s,c,y,d⟩:=k1.at U;have C:=k1.blk.cell;unfold rD at C;rw[s]at C;have t:=Wt c;have I:=d.ars
  go_wp2_with fail
  refine(Ir P.ar n P.aa P.ac _ I.rd (by have:=I.le;have:=I.mx;unfold maxLen at this;omega)).mono ?_;rintro r w2 ⟨rfl,i⟩;have X:=I.below i;have M:=k1.below i;have D:=K.ext i;have j:=ag O i;clear C t c y d s k1 I K O i hl
  by_cases A:il P.ar n<0
  · have G:Hid (Gj H.ma p n wr=zAr/\pQ H.ma p n wr=5):=ae (by
      have E:pQ H.ma p n wr=5:=by unfold pQ;rw[x.out];exact if_pos A
      exact⟨by unfold Gj;rw[E];exact if_pos (by decide),E⟩)
    go_wp2_with (refine aA rfl _ _ _ rfl w.heap.size (ky zAr) rfl rfl _ _ D rfl kP (xN zAr) ?_)
    intro V m o;have f:=j.grown o j.size (λk F=>by cases F;exact az _);go_wp2;rw[G.out.1,G.out.2];refine bodyPost_ret (v:=.tuple #[.agg (ky zAr),_]) (lg results41 _ _ w.heap.size _ _ _ _ rfl rfl m underlying94 rfl kP) rfl ?_;exact⟨rfl,f⟩
  obtain⟨k,F,hg,_⟩:=DD (q:=oD n) (l:=P.ar) (by show 0<=il P.ar n;omega);have S : il P.ar n=k:=F;have N:Hid (kQ H.ma p n=P.ar[k]):=ae (by unfold kQ;rw[x.out];show P.ar.getD (il P.ar n).toNat zAr=_;rw[S,bu,aY,aF hg];rfl);obtain⟨ba,oa,Y,u⟩:=kE rW (by decide) X.rd k hg;have z:Hid (pQ H.ma p n wr=if(wr=true/\(P.ar[k]).wr=false)\/(wr=false/\(P.ar[k]).rd=false)then 8 else 0):=ae (by
    have E:¬il (dD H.ma p).ar n<0:=by rw[x.out];exact A
    unfold pQ;rw[if_neg E,N.out])
  generalize P.ar[k]=a at *
  obtain⟨g,L,s,c,y,d⟩:=M.at U;have C:=M.blk.cell;unfold rD at C;rw[s]at C;have t:=Wt c;rw[Y]at t;rw[S]at A ⊢;have hs:(k:Int)<(P.ar.length:Int):=by omega
  clear F S A c y d s X Y
  go_wp2_with (first | (refine ay _ _ rfl ba (oa+k*7) rfl rfl _ u _ underlying94 rfl kP ?_) | (refine aK rfl _ _ _ rfl (ky a) rfl rfl rfl kP (xN a) ?_))
  intro w3 R J;have j:=ag j R;have D:=D.ext R;clear C t u R M;have Z:=J.cell;unfold ky at Z;have hm:eB w3 (some ⟨w2.heap.size,0,none⟩) (mX a):=bF J 0 7;have hq:Hid ((wr=true/\a.wr=false)\/(wr=false/\a.rd=false)->Gj H.ma p n wr=zAr/\pQ H.ma p n wr=8):=ae λC=>by
    have E:pQ H.ma p n wr=8:=by rw[z.out,if_pos C]
    exact⟨by unfold Gj;rw[E];exact if_pos (by decide),E⟩
  have hn:Hid (¬((wr=true/\a.wr=false)\/(wr=false/\a.rd=false))->Gj H.ma p n wr=a/\pQ H.ma p n wr=0):=ae λC=>by
    have E:pQ H.ma p n wr=0:=by rw[z.out,if_neg C]
    exact⟨by unfold Gj;rw[E];exact N.out,E⟩
  clear z N;cases wr<;>cases c:a.rd<;>cases hwr:a.wr<;>rw[c,hwr]at Z
  all_goals
    first
      | (have G:=ae (hn.out (by simp[c,hwr]))
         go_wp2_with (first | (refine ay _ _ rfl w2.heap.size 0 rfl rfl _ hm _ underlying94 rfl kP ?_) | (refine aA rfl _ _ _ rfl w.heap.size (ky a) rfl rfl _ _ D rfl kP (xN a) ?_))
         intro V m o;have f:=j.grown o j.size (λk F=>by cases F;exact az _);go_wp2;rw[G.out.1,G.out.2];refine bodyPost_ret (v:=.tuple #[.agg (ky a),_]) (lg results41 _ _ w.heap.size _ _ _ _ rfl rfl m underlying94 rfl kP) rfl ?_;exact⟨rfl,f⟩)
      | (have G:=ae (hq.out (by simp[c,hwr]))
         go_wp2_with (refine aA rfl _ _ _ rfl w.heap.size (ky zAr) rfl rfl _ _ D rfl kP (xN zAr) ?_)
         intro V m o;have f:=j.grown o j.size (λk F=>by cases F;exact az _);go_wp2;rw[G.out.1,G.out.2];refine bodyPost_ret (v:=.tuple #[.agg (ky zAr),_]) (lg results41 _ _ w.heap.size _ _ _ _ rfl rfl m underlying94 rfl kP) rfl ?_;exact⟨rfl,f⟩)
theorem areaT:94≠109/\94≠66/\94≠122/\94≠76:=by decide
theorem DV(k:Kp)(p:Page)(f i:Int):(eO k p f i).1.m.sp.length=k.m.sp.length:=(si.took k p f i).sp
theorem Rz(H:MH)(e n:Int)(p f:Nat)(A:Ar)(ga:Nat)(B b:Nat)(w:World)(h:lH w B b H e)(hA:aG w ga (ky A) 94)(X:p<H.sp.length)(hf:f<H.m.fs.length)(hz:H.sp.length<=1000)(hz2:H.ca.length<=1000)(hz3:H.m.fs.length<=1000) :
  Calls Tryz.prog 45 #[.pointer (some ⟨b,0,none⟩),.int .i64 p,.int .i64 n,.int .i64 f,.pointer (some ⟨ga,0,none⟩)] w λr w'=>r = .returned (.int .i64 (xQ ⟨H.ma,e⟩ p n f A).2)/\KR w B b H w' (xQ ⟨H.ma,e⟩ p n f A).1:=by
 obtain⟨g,off,cur,hj,hr,hi,hh,hg,hn,hm,ha⟩:=h.frame hf;generalize hx:aD H.ma f=x at *
 have v:=ae (show jv H.ma f=x from hx);clear hx ha hn;have J:=h.blk.cell;unfold rD at J;rw[hj]at J;have hl:(f:Int)<(H.m.fs.length:Int):=by omega
 go_enter func45,ntmps45
 go_wp2_with (first | (refine ay _ _ rfl g (off+f*13) rfl rfl _ hg _ underlying66 rfl frame_size ?_) | (refine aK rfl _ _ _ rfl (tX x) rfl rfl rfl frame_size (oG x) ?_))
 intro w1 t l;have Y:=h.below t;have W:=(KS.refl w b H).below t;have z:=hA.ext t;have u:¬kb b H w.heap.size:=λhk=>by obtain⟨cs,T,hb,_⟩:=h.kb_T hk;have:=hb.lt;omega
 clear J hg hi hh t hr hm hj h hA hl;have s:=l.cell;unfold tX at s;have q:=z.cell;unfold ky at q;have i:Hid (A.sh=true\/x.f<0/\x.r=1->xQ ⟨H.ma,e⟩ p n f A=(eZ ⟨H.ma,e⟩ p n ⟨1,f,true⟩,(f:Int))):=ae (λJ=>by unfold xQ;simp only[show jv (Kp.m ⟨H.ma,e⟩) f=x from v.out];exact if_pos J);have j:Hid (¬(A.sh=true\/x.f<0/\x.r=1)->xQ ⟨H.ma,e⟩ p n f A=if(eO (jT ⟨H.ma,e⟩ p n) x.p (-1) 0).2<0 then((eO (jT ⟨H.ma,e⟩ p n) x.p (-1) 0).1,-1)else(eZ (eO (jT ⟨H.ma,e⟩ p n) x.p (-1) 0).1 p n ⟨1,(eO (jT ⟨H.ma,e⟩ p n) x.p (-1) 0).2,true⟩,(eO (jT ⟨H.ma,e⟩ p n) x.p (-1) 0).2)):=ae (λJ=>by unfold xQ;simp only[show jv (Kp.m ⟨H.ma,e⟩) f=x from v.out];exact if_neg J);clear v;cases hsh:A.sh with
 | true=>
  have N:=ae (i.out (.inl hsh));rw[hsh]at q;clear i j hsh
  go_wp2_with fail
  refine(jl H e n p ⟨1,f,true⟩ B b _ Y X).mono ?_;rintro r w6 ⟨rfl,d⟩;go_wp2;go_ret;rw[N.out];exact⟨rfl,KR.trans W d⟩
 | false=>
  rw[hsh]at q
  by_cases hxf:x.f<0
  .by_cases U:x.r=1
   .have N:=ae (i.out (.inr ⟨hxf,U⟩));rw[U]at s;clear i j hsh
    go_wp2_with fail
    refine(jl H e n p ⟨1,f,true⟩ B b _ Y X).mono ?_;rintro r w6 ⟨rfl,d⟩;go_wp2;go_ret;rw[N.out];exact⟨rfl,KR.trans W d⟩
   have N:=ae (j.out (λJ=>J.elim (λO=>by rw[hsh]at O; cases O) (λO=>U O.2)));clear i j hsh
   go_wp2_with fail
   refine(BA H e n p B b _ Y X).mono ?_;rintro r w2 ⟨rfl,C,e2,k2,R,S⟩;have k:=R.blkN l u;have E:=W.trans R;have I:=jX.drop ⟨H.ma,e⟩ p n;have G:=ae S;rw[<-S]at I;have a:C.sp.length=H.sp.length/\C.ca.length=H.ca.length/\C.m.fs.length=H.m.fs.length:=⟨by have:=I.sp;simp only[tV]at this;exact this,by rw[show C.ca=H.ca from I.ca],I.fs⟩;clear I S W R Y l s q z
   go_wp2_with (refine ay _ _ rfl w.heap.size 0 rfl rfl (eQ x.p).toList (bF k 0 8) _ underlying58 rfl psize ?_)
   refine(sJ C e2 (-1) 0 x.p B b _ k2 (by rw[a.1];exact hz) (by rw[a.2.1];exact hz2) (by rw[a.2.2];exact hz3)).mono ?_;rintro r w3 ⟨rfl,L,V,k3,Z,M⟩;have D:=E.trans Z;have o:L.sp.length=H.sp.length:=by have:=DV ⟨C.ma,e2⟩ x.p (-1) 0;rw[<-M]at this;simp only[tV]at this;rw[this,a.1]
   rw[G.out]at M ⊢;have F:=ae M;have y:p<L.sp.length:=by rw[o];exact X
   clear G M E Z k2 k a o;generalize hK:(eO (jT ⟨H.ma,e⟩ p n) x.p (-1) 0).2=K
   by_cases h0:K<0
   .have c:Hid (xQ ⟨H.ma,e⟩ p n f A=(⟨L.ma,V⟩,-1)):=ae (by rw[N.out,hK,if_pos h0,F.out]);go_wp2;go_ret;rw[c.out];exact⟨rfl,_,_,k3,D,rfl⟩
   have c:Hid (xQ ⟨H.ma,e⟩ p n f A=(eZ ⟨L.ma,V⟩ p n ⟨1,K,true⟩,K)):=ae (by rw[N.out,hK,if_neg h0,F.out]);clear hK
   go_wp2_with fail
   refine(jl L V n p ⟨1,K,true⟩ B b _ k3 y).mono ?_;rintro r w6 ⟨rfl,d⟩;go_wp2;go_ret;rw[c.out];exact⟨rfl,KR.trans D d⟩
  have N:=ae (j.out (λJ=>J.elim (λO=>by rw[hsh]at O; cases O) (λO=>hxf O.1)));clear i j hsh
  go_wp2_with fail
  refine(BA H e n p B b _ Y X).mono ?_;rintro r w2 ⟨rfl,C,e2,k2,R,S⟩;have k:=R.blkN l u;have E:=W.trans R;have I:=jX.drop ⟨H.ma,e⟩ p n;have G:=ae S;rw[<-S]at I;have a:C.sp.length=H.sp.length/\C.ca.length=H.ca.length/\C.m.fs.length=H.m.fs.length:=⟨by have:=I.sp;simp only[tV]at this;exact this,by rw[show C.ca=H.ca from I.ca],I.fs⟩;clear I S W R Y l s q z
  go_wp2_with (refine ay _ _ rfl w.heap.size 0 rfl rfl (eQ x.p).toList (bF k 0 8) _ underlying58 rfl psize ?_)
  refine(sJ C e2 (-1) 0 x.p B b _ k2 (by rw[a.1];exact hz) (by rw[a.2.1];exact hz2) (by rw[a.2.2];exact hz3)).mono ?_;rintro r w3 ⟨rfl,L,V,k3,Z,M⟩;have D:=E.trans Z;have o:L.sp.length=H.sp.length:=by have:=DV ⟨C.ma,e2⟩ x.p (-1) 0;rw[<-M]at this;simp only[tV]at this;rw[this,a.1]
  rw[G.out]at M ⊢;have F:=ae M;have y:p<L.sp.length:=by rw[o];exact X
  clear G M E Z k2 k a o;generalize hK:(eO (jT ⟨H.ma,e⟩ p n) x.p (-1) 0).2=K
  by_cases h0:K<0
  .have c:Hid (xQ ⟨H.ma,e⟩ p n f A=(⟨L.ma,V⟩,-1)):=ae (by rw[N.out,hK,if_pos h0,F.out]);go_wp2;go_ret;rw[c.out];exact⟨rfl,_,_,k3,D,rfl⟩
  have c:Hid (xQ ⟨H.ma,e⟩ p n f A=(eZ ⟨L.ma,V⟩ p n ⟨1,K,true⟩,K)):=ae (by rw[N.out,hK,if_neg h0,F.out]);clear hK
  go_wp2_with fail
  refine(jl L V n p ⟨1,K,true⟩ B b _ k3 y).mono ?_;rintro r w6 ⟨rfl,d⟩;go_wp2;go_ret;rw[c.out];exact⟨rfl,KR.trans D d⟩
theorem Tk(h:Pt m)(p:Nat)(n:Int):vk (kQ m p n):=by
 unfold kQ;rw[aY];cases e:(dD m p).ar[(il (dD m p).ar n).toNat]? with
 | none=>show vk zAr;unfold vk;decide
 | some a=>exact(bM ((sI (h.arN p)).2 a (bS e))).1
theorem NH(H:MH)(e n:Int)(p:Nat)(g:Pg)(J:Nat)(B b:Nat)(w:World)(h:lH w B b H e)(X:Rt H.ma)(hC:Co H.ma)(hA:aG w J (ky (kQ H.ma p n)) 94)(hp:p<H.sp.length)(hg:eT H.ma p n=some g)(hin:0<=g.fi->(ent H.ma p n).k=0->qK H.ma.st g.fi g.pg) :
  Calls Tryz.prog 44 #[.pointer (some ⟨b,0,none⟩),.int .i64 p,.int .i64 n,.pointer (some ⟨J,0,none⟩)] w λr w'=>r = .returned (.int .i64 (gZ ⟨H.ma,e⟩ p n (kQ H.ma p n)).2)/\KR w B b H w' (gZ ⟨H.ma,e⟩ p n (kQ H.ma p n)).1:=by
 have hz:=vX X;have km:H.sp.length<=1000:=by have:=hz.sp.1;rwa [tV]at this
 have kl:H.ca.length<=1000:=hz.ca;have kk:H.m.fs.length<=1000:=hz.fs;clear hz;obtain⟨g1,g2,g3,g4,g5,g6,g7⟩:=Bw hg;have hS:=X.pt.pg hg;have kJ:=ae (Tk X.pt p n);obtain⟨P,hP⟩:∃P,H.sp[p]?=some P:=⟨_,aF hp⟩;have gd:=ae (pV hP);have gc:Hid ((ent H.ma p n).k=2->aJ H.sw (ent H.ma p n).n=0):=ae (λV=>by obtain⟨g0,gH,kH⟩:=X.en p n (by rw[V];decide);have h1:=(kH.sw V).1;have h2:=(bD _).1 (mE X.pt p n);have Z:=X.pt.swl;exact jG.2 ⟨X.pt.sw,by omega,by show _<(H.ma.sw.blocks.length:Int);omega⟩);generalize hAA:kQ H.ma p n=A at *
 obtain⟨gs,off,gi,gf,kz,hy⟩:=h.at hP;have hc:=h.blk.cell;unfold rD at hc;rw[gi]at hc;have gG:(p:Int)<(H.sp.length:Int):=by omega
 have kI:=ae g6;have gA:=ae g4;have gC:=ae g3;have kL:=ae g7;have kD:=ae hin;have kA:=ae hS;have kg:=ae X;have gj:=ae hC;have gI:=ae h.bs;clear g1 g2 g3 g4 g5 g6 g7 hin hS X hC hg hAA;go_enter func44,ntmps44
 go_wp2_with (refine ay _ _ rfl gs (off+p*10+2) rfl rfl _ kz _ underlying74 tab_agg tab_size ?_)
 refine(xk P.tb (nT P.ts) n _ hy.tb).mono ?_;rintro r w1 ⟨rfl,hB⟩;have h1:=h.below hB;have s1:=(KS.refl w b H).below hB;have kR:=hA.ext hB;clear hc gf kz hy;generalize hx:dK P.tb n=x
 go_wp2_with (refine aK rfl _ _ _ rfl (jy x) rfl rfl rfl entry_size (by simp[jy,Value.oneCell']) ?_)
 intro w2 hJ hl;have h2:=h1.below hJ;have s2:=s1.below hJ;have l:=kR.ext hJ;have gE:=ae (bi hB.size (az w1.heap.size));clear h1 s1 hB hJ h hA kR;have hs:=hl.cell;unfold jy at hs;have kd:Hid (ent H.ma p n=x):=ae (by unfold ent;rw[gd.out];exact hx);have d:=l.cell;unfold ky at d;clear hx;have t:Hid (gZ ⟨H.ma,e⟩ p n A=if x.k=1 then(⟨H.ma,e⟩,x.n)else if x.k=2 then(if aJ H.sw x.n≠0 then(⟨H.ma,e⟩,-1)else
   let r:=eO ⟨H.ma,e⟩ (dA H.sw x.n) (-1) 0
   if r.2<0 then(r.1,-1)else
   if dC r.1.m.sl x.n (-1)≠0 then(r.1,-1)else(eZ ⟨{ r.1.m with sl:=cB r.1.m.sl x.n (-1) },r.1.e⟩ p n ⟨1,r.2,A.wr⟩,r.2))
  else if A.fi<0 then WP (eO ⟨H.ma,e⟩ zPg (-1) 0) p n A.wr
  else
   let r:=fu ⟨H.ma,e⟩ A.fi (A.ba+n-A.fr)
   if r.2<0 then r else(eZ (gF r.1 r.2 1) p n ⟨1,r.2,A.sh&&A.wr⟩,r.2)):=ae (by
  unfold gZ;simp only[show ent (Kp.m ⟨H.ma,e⟩) p n=x from kd.out];rfl)
 by_cases k1:x.k=1
 .have R:Hid (gZ ⟨H.ma,e⟩ p n A=(⟨H.ma,e⟩,x.n)):=ae (by rw[t.out,if_pos k1]);rw[k1]at hs;clear t k1;go_wp2;go_ret;rw[R.out];exact⟨rfl,_,_,h2,s2,rfl⟩
 by_cases V:x.k=2
 .have kw:Hid (aJ H.sw x.n=0):=ae (by have:=gc.out;rw[kd.out]at this;exact this V);have R:Hid (gZ ⟨H.ma,e⟩ p n A=(let r:=eO ⟨H.ma,e⟩ (dA H.sw x.n) (-1) 0
   if r.2<0 then(r.1,-1)else
   if dC r.1.m.sl x.n (-1)≠0 then(r.1,-1)else(eZ ⟨{ r.1.m with sl:=cB r.1.m.sl x.n (-1) },r.1.e⟩ p n ⟨1,r.2,A.wr⟩,r.2))):=ae (by rw[t.out,if_neg k1,if_pos V,if_neg (by rw[kw.out];simp)])
  rw[V]at hs;clear t k1 V;obtain⟨Q,hQ⟩:∃Q,Hid (Q=dA H.sw x.n):=⟨_,ae rfl⟩;rw[<-hQ.out]at R;go_upto_region 5 with(fail);refine ko 14 [_,_,_,_,.v (.agg #[.slice H.wb H.sw.blocks.length H.cwb,.slice H.wq H.sw.queue.length H.cwq]),_,_,.v (.tuple #[.agg (eQ Q),.int .i64 0]),_,.v (.agg (eQ Q)),.v (.int .i64 0),.r 11 ((iN w2.heap.size 58 8)),.y 12 ((Lc 11 w2.heap.size 58 (mZ (.agg (eQ Q))))),.v (.int .i64 0)] (λW=>Below w2.heap.size w2 W) dS (Below.refl _ _) (Yk dS rfl (Yk dS rfl (Yf dS b 0 rfl rfl (Yf dS b 3 rfl rfl (ah ?_ (Yf dS w1.heap.size 1 rfl rfl (Yc dS (.int .i64 x.n) (λW F=>by simp[(hl.ext F).cell,jy]) rfl rfl rfl rfl (ah ?_ (Yk dS rfl (ah ?_ (ah ?_ (ah ?_ (ah ?_ (Yk dS rfl (aI))))))))))))))) (λ_=>rfl) rfl ?_
  .intro ρ y W D G F E;refine iY dS F (mZ (.agg #[.slice H.wb H.sw.blocks.length H.cwb,.slice H.wq H.sw.queue.length H.cwq])) (λ_ _ h=>h) ?_;have gy:=D 41 3 rfl;have Z:y 3=_:=E 3 rfl;refine ak (.agg #[.slice H.wb H.sw.blocks.length H.cwb,.slice H.wq H.sw.queue.length H.cwq]) (aj rfl) (bH rfl (gy.trans Z) (h2.below F).rdW underlying38 rfl disk_size) rfl
  .intro ρ y W D G F E;refine iY dS F (mZ (.tuple #[.agg (eQ Q),.int .i64 0])) (λ_ _ h=>h) ?_;have gx:=D 42 4 rfl;have h4:y 4=_:=E 4 rfl;have gw:=D 44 6 rfl;have h6:y 6=_:=E 6 rfl;have EF:=eF0 G λ_=>trivial;refine aO _ _ (aj rfl) (aS rfl (EF _) func89 (by kernel_rfl) (by kernel_rfl) (by simp only[bW,bQ,aZ,gx,h4,gw,h6,EF];rfl)) ?_;refine(Il H.sw x.n H.wb H.cwb H.wq H.cwq W (h2.below F).ma.rd.sw).mono ?_;rintro r W3 ⟨rfl,kf⟩;rw[kw.out,<-hQ.out];exact⟨_,rfl,kf,rfl⟩
  .intro ρ y W D G F E;refine iY dS F (mZ (.agg (eQ Q))) (λ_ _ h=>h) ?_;have kj:=D 37 8 rfl;have Y:y 8=_:=E 8 rfl;refine ak (.agg (eQ Q)) (aj rfl) (by simp[execOp,go_sem,bU,kj,Y]) rfl
  .intro ρ y W D G F E;refine iY dS F (mZ (.int .i64 0)) (λ_ _ h=>h) ?_;have kj:=D 37 8 rfl;have Y:y 8=_:=E 8 rfl;refine ak (.int .i64 0) (aj rfl) (by simp[execOp,go_sem,bU,kj,Y]) rfl
  .intro ρ y W D G F E;refine iY dS F ((iN w2.heap.size 58 8)) (λ_ _ h=>h) ?_;refine jh (.pointer (some ⟨W.heap.size,0,none⟩)) (aj rfl) (by simp[execOp,go_sem,bU]) ((Below.refl _ _).alloc (az _) (.cells #[.int .u8 0,.int .u8 0,.int .u8 0,.int .u8 0,.int .u8 0,.int .u8 0,.int .u8 0,.int .u8 0] 58)) ?_;exact⟨_,_,rfl,F.size,aG.new _ _ _,rfl⟩
  .intro ρ y W D G F E;have gz:=D 10 11 rfl;have kh:=E 11 rfl;have gv:=D 46 9 rfl;have h9:y 9=_:=E 9 rfl;obtain⟨g3,cur3,e9,kG,kM,kx⟩:=kh;refine mh (aj rfl) _ _ _ rfl g3 0 (.agg (eQ Q)) (eQ Q).toList (gz.trans e9) (gv.trans h9) rfl cur3 _ kM (by rw[kx];exact az _) psize (bT (fM Q)) ?_;intro w1 hr kE;rw[gK cur3 _ (by rw[kx];rfl)]at hr;refine⟨F.grown kE F.size (λk hk=>by cases hk;exact kG),⟨g3,_,e9,kG,hr,rfl⟩,?_⟩;intro k hk gh
   match k,hk,gh with
   | 0,_,_|1,_,_|2,_,_|3,_,_|4,_,_|5,_,_|6,_,_|7,_,_|8,_,_|9,_,_|10,_,_=>exactλh=>h
   | 11,_,_=>exactλq=>kZ q hr (λ_=>rfl) ⟨_,kM⟩ kE
   | 12,_,h=>exact absurd rfl h
   | 13,_,_=>exactλh=>h
   | n+14,h,_=>exact absurd h (by omega)
  intro y W3 j hD;replace j:Below w2.heap.size w2 W3:=j;have i:((iN w2.heap.size 58 8)).r (y 11) W3:=hD 11 (by decide);have hj:=hD 12 (by decide);clear hD;simp only[dm,bU,bQ,aZ];obtain⟨ge,cce,hU,gD,kO,hW⟩:=hj;have ke : cce=eQ Q:=by simpa[mZ]using hW
  subst ke;rw[hU];have Z:=h2.below j;have s3:=s2.below j;have ku:=hl.ext j;have kP:=l.ext j;clear hs d h2 s2 hl l j hU hW i
  go_wp2_with (refine ay _ _ rfl ge 0 rfl rfl (eQ Q).toList kO.rd _ underlying58 rfl psize ?_)
  refine(sJ H e (-1) 0 Q B b _ Z km kl kk).mono ?_;rintro r M ⟨rfl,C,N,O,S,U⟩;have kt:=S.blk Z ku entTy;have hi:=S.blk Z kP areaT;have L:=s3.trans S;have z:C.sp.length=H.sp.length:=by have:=DV ⟨H.ma,e⟩ Q (-1) 0;rw[<-U]at this;simp only[tV]at this;exact this
  have I:=ae U;have hv:p<C.sp.length:=by rw[z];exact hp
  have kF:=ae O.bs;clear U s3 S Z ku kP z kO;generalize hK:(eO ⟨H.ma,e⟩ Q (-1) 0).2=K
  by_cases h0:K<0
  .have c:Hid (gZ ⟨H.ma,e⟩ p n A=(⟨C.ma,N⟩,-1)):=ae (by
    rw[R.out]
    try simp only
    rw[hK,if_pos h0,I.out])
   go_wp2;go_ret;rw[c.out];exact⟨rfl,_,_,O,L,rfl⟩
  have c:Hid (gZ ⟨H.ma,e⟩ p n A=if dC C.sl x.n (-1)≠0 then(⟨C.ma,N⟩,-1)else(eZ ⟨{ C.ma with sl:=cB C.sl x.n (-1) },N⟩ p n ⟨1,K,A.wr⟩,K)):=ae (by rw[R.out];simp only;rw[hK,if_neg h0,<-I.out];rfl);clear hK R I;go_upto_region 11 with(fail);refine ko 13 [_,_,_,_,_,_,_,.r 7 ((CX M.heap.size 3 1 (cB C.sl x.n (-1)).length ((cB C.sl x.n (-1)).map gB) (dC C.sl x.n (-1)))),.r 8 ((CX M.heap.size 3 1 (cB C.sl x.n (-1)).length ((cB C.sl x.n (-1)).map gB) (dC C.sl x.n (-1)))),.r 9 ((nA M.heap.size 3 1 (cB C.sl x.n (-1)).length ((cB C.sl x.n (-1)).map gB))),.v (.int .i64 (dC C.sl x.n (-1))),.r 11 ((nA M.heap.size 3 1 (cB C.sl x.n (-1)).length ((cB C.sl x.n (-1)).map gB))),.v (.int .i64 (dC C.sl x.n (-1)))] (λW=>Below M.heap.size M W) dS (Below.refl _ _) (Yk dS rfl (Yk dS rfl (Yf dS b 0 rfl rfl (Yf dS b 2 rfl rfl (Yc dS (.slice C.asl C.sl.length C.csl) (λW F=>by simp[(O.below F).blk.cell,rD]) rfl rfl rfl rfl (Yf dS w1.heap.size 1 rfl rfl (Yc dS (.int .i64 x.n) (λW F=>by simp[(kt.ext F).cell,jy]) rfl rfl rfl rfl (ah ?_ (ah ?_ (ah ?_ (ah ?_ (ah ?_ (Yk dS rfl (aI)))))))))))))) (λ_=>rfl) rfl ?_
  .intro ρ y W D G F E;refine iY dS F ((CX M.heap.size 3 1 (cB C.sl x.n (-1)).length ((cB C.sl x.n (-1)).map gB) (dC C.sl x.n (-1)))) (λ_ _ h=>h) ?_;have gu:=D 60 4 rfl;have h4:y 4=_:=E 4 rfl;have gt:=D 62 6 rfl;have h6:y 6=_:=E 6 rfl;have EC:∀v,ρ (.const v)=v:=λv=>G (.const v) trivial;have EF:=eF0 G λ_=>trivial;refine aO _ _ (aj rfl) (aS rfl (EF _) func91 (by kernel_rfl) (by kernel_rfl) (by simp only[bW,bQ,aZ,gu,h4,gt,h6,EC,EF];rfl)) ?_;have hm:=(O.below F).ma.rd.sl;refine(EA C.sl C.asl C.csl x.n (-1) W hm.le hm.nl hm.rd (by have:=hm.le;have:=hm.mx;unfold maxLen at this;omega)).mono ?_;rintro r W3 ⟨u,rfl,ho,kf⟩;exact⟨_,rfl,kf,u,rfl,ho.mono F.size⟩
  .intro ρ y W D G F E;refine iY dS F ((CX M.heap.size 3 1 (cB C.sl x.n (-1)).length ((cB C.sl x.n (-1)).map gB) (dC C.sl x.n (-1)))) (λ_ _ h=>h) ?_;have gr:=D 63 7 rfl;have h7:=E 7 rfl;refine ak _ (aj rfl) (run_move (.inl rfl) gr) ?_;exact h7
  .intro ρ y W D G F E;refine iY dS F ((nA M.heap.size 3 1 (cB C.sl x.n (-1)).length ((cB C.sl x.n (-1)).map gB))) (λ_ _ h=>h) ?_;have ki:=D 55 8 rfl;have Y:=E 8 rfl;obtain⟨u,hu,ho⟩:=Y;refine ak u (aj rfl) (by simp[execOp,go_sem,bU,ki,hu]) ?_;exact ho
  .intro ρ y W D G F E;refine iY dS F (mZ (.int .i64 (dC C.sl x.n (-1)))) (λ_ _ h=>h) ?_;have ki:=D 55 8 rfl;have Y:=E 8 rfl;obtain⟨u,hu,ho⟩:=Y;refine ak (.int .i64 (dC C.sl x.n (-1))) (aj rfl) (by simp[execOp,go_sem,bU,ki,hu]) rfl
  .intro ρ y W D G F E;refine iY dS F ((nA M.heap.size 3 1 (cB C.sl x.n (-1)).length ((cB C.sl x.n (-1)).map gB))) (λ_ _ h=>h) ?_;have gq:=D 64 9 rfl;have h9:=E 9 rfl;refine ak _ (aj rfl) (run_move (.inr rfl) gq) ?_;exact h9
  intro y W5 s hf;replace s:Below M.heap.size M W5:=s;have hG:((CX M.heap.size 3 1 (cB C.sl x.n (-1)).length ((cB C.sl x.n (-1)).map gB) (dC C.sl x.n (-1)))).r (y 7) W5:=hf 7 (by decide);have hF:((CX M.heap.size 3 1 (cB C.sl x.n (-1)).length ((cB C.sl x.n (-1)).map gB) (dC C.sl x.n (-1)))).r (y 8) W5:=hf 8 (by decide);have hE:((nA M.heap.size 3 1 (cB C.sl x.n (-1)).length ((cB C.sl x.n (-1)).map gB))).r (y 9) W5:=hf 9 (by decide);have i:((nA M.heap.size 3 1 (cB C.sl x.n (-1)).length ((cB C.sl x.n (-1)).map gB))).r (y 11) W5:=hf 11 (by decide);clear hf;simp only[dm,bU,bQ,aZ];have hH:Own W5 M.heap.size 3 1 (y 11) (cB C.sl x.n (-1)).length ((cB C.sl x.n (-1)).map gB):=i;obtain⟨a5,c5,e7,_⟩:=Own.rd hH;rw[e7]at hH;simp only[e7];have k5:=O.below s;have s5:=L.below s;have hL:=hi.ext s;clear hG hF hE i e7 O L hi kt s
  by_cases h5:dC C.sl x.n (-1)=0
  .rw[h5];have kc:Hid (gZ ⟨H.ma,e⟩ p n A=(eZ ⟨{ C.ma with sl:=cB C.sl x.n (-1) },N⟩ p n ⟨1,K,A.wr⟩,K)):=ae (by rw[c.out,if_neg (λh=>h h5)]);clear h5 c
   go_wp2_with (first | (refine aB rfl _ _ _ rfl b 2 _ [.slice a5 (cB C.sl x.n (-1)).length c5] rfl rfl rfl _ _ k5.blk (by show 2+1<=12;decide) slots_size (λu hu=>by cases bB.1 hu;rfl) ?_))
   intro w6 kN hI;have k6:=k5.setL (hH.mono kF.out) kN hI;have s6:KS w b H w6 { C with asl:=a5,csl:=c5,sl:=cB C.sl x.n (-1) }:=s5.putB hI rfl rfl rfl;have gk:=bY hL k5.blk (by decide) hI;clear s5 k5 hH hL kN hI;have d:=gk.cell;unfold ky at d
   go_wp2_with fail
   refine(jl _ N n p ⟨1,K,_⟩ B b _ k6 hv).mono ?_;rintro r w9 ⟨rfl,hh⟩;go_wp2;go_ret;rw[kc.out];exact⟨rfl,KR.trans s6 hh⟩
  have kc:Hid (gZ ⟨H.ma,e⟩ p n A=(⟨C.ma,N⟩,-1)):=ae (by rw[c.out,if_pos h5]);go_wp2;go_ret;rw[kc.out];exact⟨rfl,_,_,k5,s5,rfl⟩
 by_cases hfi:A.fi<0
 .have R:Hid (gZ ⟨H.ma,e⟩ p n A=WP (eO ⟨H.ma,e⟩ zPg (-1) 0) p n A.wr):=ae (by rw[t.out,if_neg k1,if_neg V,if_pos hfi]);clear t;go_upto_region 18 with(fail)
  go_wp2_with fail
  rw[<-zPg_cells];refine(sJ H e (-1) 0 zPg B b _ h2 km kl kk).mono ?_;rintro r M ⟨rfl,C,N,O,S,U⟩;have hi:=S.blk h2 l areaT;have L:=s2.trans S;have z:C.sp.length=H.sp.length:=by have:=DV ⟨H.ma,e⟩ zPg (-1) 0;rw[<-U]at this;simp only[tV]at this;exact this
  have I:=ae U;have hv:p<C.sp.length:=by rw[z];exact hp
  clear U s2 S h2 hl l z hs d;generalize hK:(eO ⟨H.ma,e⟩ zPg (-1) 0).2=K;have d:=hi.cell;unfold ky at d
  by_cases h0:K<0
  .have c:Hid (gZ ⟨H.ma,e⟩ p n A=(⟨C.ma,N⟩,K)):=ae (by rw[R.out];unfold WP;rw[hK,if_pos h0,I.out,<-hK]);go_wp2;go_ret;rw[c.out];exact⟨rfl,_,_,O,L,rfl⟩
  have c:Hid (gZ ⟨H.ma,e⟩ p n A=(eZ ⟨C.ma,N⟩ p n ⟨1,K,A.wr⟩,K)):=ae (by rw[R.out];unfold WP;rw[hK,if_neg h0,I.out]);clear hK R I
  go_wp2_with fail
  refine(jl C N n p ⟨1,K,_⟩ B b _ O hv).mono ?_;rintro r w9 ⟨rfl,hh⟩;go_wp2;go_ret;rw[c.out];exact⟨rfl,KR.trans L hh⟩
 have R:Hid (gZ ⟨H.ma,e⟩ p n A=(let r:=fu ⟨H.ma,e⟩ A.fi (A.ba+n-A.fr)
  if r.2<0 then r else(eZ (gF r.1 r.2 1) p n ⟨1,r.2,A.sh&&A.wr⟩,r.2))):=ae (by rw[t.out,if_neg k1,if_neg V,if_neg hfi])
 have hT:Hid (qK H.ma.st A.fi (A.ba+n-A.fr)):=ae (by have e1:=kI.out;have e2:=kL.out (by omega);have h2:=(bD _).1 (mE kg.out.pt p n);rw[e1,e2];refine kD.out (by omega) ?_;rw[kd.out]at h2 ⊢;omega);have kK:=kJ.out;have gg:=kA.out;unfold vk at kK;have hr:IntKind.i64.wrap (A.ba+n)=A.ba+n:=bI _ (by omega);have kv:IntKind.i64.wrap (A.ba+n-A.fr)=A.ba+n-A.fr:=bI _ (by omega);clear t kK gg;go_upto_region 22 with(fail);refine FI 16 17 [] [mZ (.pointer (some ⟨b,0,none⟩)),mZ (.pointer (some ⟨J,0,none⟩)),mZ (.pointer (some ⟨J,0,none⟩)),mZ (.pointer (some ⟨J,5,none⟩)),mZ (.int .i64 A.fi),mZ (.pointer (some ⟨J,0,none⟩)),mZ (.pointer (some ⟨J,0,none⟩)),mZ (.pointer (some ⟨J,6,none⟩)),mZ (.int .i64 A.ba),mZ (.int .i64 n),mZ (.int .i64 (A.ba+n)),mZ (.pointer (some ⟨J,0,none⟩)),mZ (.pointer (some ⟨J,0,none⟩)),mZ (.pointer (some ⟨J,0,none⟩)),mZ (.int .i64 A.fr),mZ (.int .i64 (A.ba+n-A.fr))] (by kernel_rfl) (by kernel_rfl) (by kernel_rfl) (by kernel_rfl) (by kernel_rfl) (by kernel_rfl) (by decide) (by decide) _ rfl (by kernel_rfl) (ah ?_ (ah ?_ (ah ?_ (ah ?_ (ah ?_ (ah ?_ (ah ?_ (ah ?_ (ah ?_ (ah ?_ (ah ?_ (ah ?_ (ah ?_ (ah ?_ (ah ?_ (ah ?_ (aI))))))))))))))))) (aI) rfl ?_
 .refine aQ rfl ?_;intro ρ y W D G F E;have E0:ρ (.tmp 0) = .pointer (some ⟨b,0,none⟩):=(G (.tmp 0) rfl).trans rfl;refine ak (.pointer (some ⟨b,0,none⟩)) (aj rfl) (run_move (.inl rfl) E0) rfl
 .refine aQ rfl ?_;intro ρ y W D G F E;have E3:ρ (.tmp 3) = .pointer (some ⟨J,0,none⟩):=(G (.tmp 3) rfl).trans rfl;refine ak (.pointer (some ⟨J,0,none⟩)) (aj rfl) (run_move (.inl rfl) E3) rfl
 .refine aQ rfl ?_;intro ρ y W D G F E;have gb:=D 107 1 rfl;have h1:y 1=_:=E 1 rfl;refine ak (.pointer (some ⟨J,0,none⟩)) (aj rfl) (by simp[execOp,go_sem,gb,h1]) rfl
 .refine aQ rfl ?_;intro ρ y W D G F E;have k9:=D 108 2 rfl;have h2:y 2=_:=E 2 rfl;refine ak (.pointer (some ⟨J,5,none⟩)) (aj rfl) (by simp[execOp,go_sem,k9,h2]) rfl
 .refine aQ rfl ?_;intro ρ y W D G F E;have k8:=D 109 3 rfl;have Z:y 3=_:=E 3 rfl;refine ak (.int .i64 A.fi) (aj rfl) (by simp[execOp,go_sem,k8,Z,(l.ext F).cell,ky]) rfl
 .refine aQ rfl ?_;intro ρ y W D G F E;have E3:ρ (.tmp 3) = .pointer (some ⟨J,0,none⟩):=(G (.tmp 3) rfl).trans rfl;refine ak (.pointer (some ⟨J,0,none⟩)) (aj rfl) (run_move (.inl rfl) E3) rfl
 .refine aQ rfl ?_;intro ρ y W D G F E;have k7:=D 111 5 rfl;have h5:y 5=_:=E 5 rfl;refine ak (.pointer (some ⟨J,0,none⟩)) (aj rfl) (by simp[execOp,go_sem,k7,h5]) rfl
 .refine aQ rfl ?_;intro ρ y W D G F E;have k3:=D 112 6 rfl;have h6:y 6=_:=E 6 rfl;refine ak (.pointer (some ⟨J,6,none⟩)) (aj rfl) (by simp[execOp,go_sem,k3,h6]) rfl
 .refine aQ rfl ?_;intro ρ y W D G F E;have k0:=D 113 7 rfl;have h7:y 7=_:=E 7 rfl;refine ak (.int .i64 A.ba) (aj rfl) (by simp[execOp,go_sem,k0,h7,(l.ext F).cell,ky]) rfl
 .refine aQ rfl ?_;intro ρ y W D G F E;have E2:ρ (.tmp 2) = .int .i64 n:=(G (.tmp 2) rfl).trans rfl;refine ak (.int .i64 n) (aj rfl) (run_move (.inl rfl) E2) rfl
 .refine aQ rfl ?_;intro ρ y W D G F E;have kY:=D 114 8 rfl;have Y:y 8=_:=E 8 rfl;have kX:=D 115 9 rfl;have h9:y 9=_:=E 9 rfl;refine ak (.int .i64 (A.ba+n)) (aj rfl) (by simp[execOp,go_sem,kY,Y,kX,h9,hr]) rfl
 .refine aQ rfl ?_;intro ρ y W D G F E;have E3:ρ (.tmp 3) = .pointer (some ⟨J,0,none⟩):=(G (.tmp 3) rfl).trans rfl;refine ak (.pointer (some ⟨J,0,none⟩)) (aj rfl) (run_move (.inl rfl) E3) rfl
 .refine aQ rfl ?_;intro ρ y W D G F E;have kV:=D 117 11 rfl;have kh:y 11=_:=E 11 rfl;refine ak (.pointer (some ⟨J,0,none⟩)) (aj rfl) (by simp[execOp,go_sem,kV,kh]) rfl
 .refine aQ rfl ?_;intro ρ y W D G F E;have kU:=D 118 12 rfl;have gn:y 12=_:=E 12 rfl;refine ak (.pointer (some ⟨J,0,none⟩)) (aj rfl) (by simp[execOp,go_sem,kU,gn]) rfl
 .refine aQ rfl ?_;intro ρ y W D G F E;have kT:=D 119 13 rfl;have gm:y 13=_:=E 13 rfl;refine ak (.int .i64 A.fr) (aj rfl) (by simp[execOp,go_sem,kT,gm,(l.ext F).cell,ky]) rfl
 .refine aQ rfl ?_;intro ρ y W D G F E;have kW:=D 116 10 rfl;have gp:y 10=_:=E 10 rfl;have kS:=D 120 14 rfl;have gl:y 14=_:=E 14 rfl;refine ak (.int .i64 (A.ba+n-A.fr)) (aj rfl) (by simp[execOp,go_sem,kW,gp,kS,gl,kv]) rfl
 intro ρ y WA o ho D G hV ha a;cases ho;have kb:y 0=_:=a 0 (by decide);have ks:y 1=_:=a 1 (by decide);have kr:y 2=_:=a 2 (by decide);have kq:y 3=_:=a 3 (by decide);have ka:y 4=_:=a 4 (by decide);have kp:y 5=_:=a 5 (by decide);have kn:y 6=_:=a 6 (by decide);have hG:y 7=_:=a 7 (by decide);have hF:y 8=_:=a 8 (by decide);have hE:y 9=_:=a 9 (by decide);have hO:y 10=_:=a 10 (by decide);have i:y 11=_:=a 11 (by decide);have hj:y 12=_:=a 12 (by decide);have hN:y 13=_:=a 13 (by decide);have hM:y 14=_:=a 14 (by decide);have ht:y 15=_:=a 15 (by decide);have hZ:=D 106 0 rfl;rw[kb]at hZ;have hY:=D 110 4 rfl;rw[ka]at hY;have hX:=D 121 15 rfl;rw[ht]at hX;have EC:∀v,ρ (.const v)=v:=λv=>G (.const v) trivial;have EF:=eF0 G λ_=>trivial;refine SE _ _ (aj rfl) (aS rfl (EF _) func93 (by kernel_rfl) (by kernel_rfl) (by simp only[bW,bQ,aZ,hZ,hY,hX,EC,EF];rfl)) ?_;refine(Mq H e A.fi (A.ba+n-A.fr) B b _ (h2.below ha) kg.out hT.out).mono ?_;rintro r M ⟨rfl,C,N,O,S,U⟩;refine⟨_,rfl,?_⟩;clear a D G hV;simp only[lay,Nat.reduceAdd,Nat.reduceLT,Nat.reduceEqDiff,reduceIte,decide_true,decide_false,if_true,uU,if_false,Ak,qD,uf,yx,AA,xY,kb,ks,kr,kq,ka,kp,kn,hG,hF,hE,hO,i,hj,hN,hM,ht];clear kb ks kr kq ka kp kn hG hF hE hO i hj hN hM ht;have hi:=S.blk (h2.below ha) (l.ext ha) areaT;have L:=(s2.below ha).trans S;have z:C.sp.length=H.sp.length:=by have:=(Iq (k:=⟨H.ma,e⟩) kg.out gj.out hT.out).2.vis.sk.len;rw[<-U]at this;simp only[tV]at this;exact this
 have I:=ae U;have hv:p<C.sp.length:=by rw[z];exact hp
 clear U s2 S h2 hl l z hs d ha hr kv;generalize hK:(fu ⟨H.ma,e⟩ A.fi (A.ba+n-A.fr)).2=K
 by_cases h0:K<0
 .have c:Hid (gZ ⟨H.ma,e⟩ p n A=(⟨C.ma,N⟩,K)):=ae (by rw[R.out];simp only;rw[hK,if_pos h0,I.out,<-hK]);go_wp2;go_ret;rw[c.out];exact⟨rfl,_,_,O,L,rfl⟩
 have c:Hid (gZ ⟨H.ma,e⟩ p n A=(eZ (gF ⟨C.ma,N⟩ K 1) p n ⟨1,K,A.sh&&A.wr⟩,K)):=ae (by rw[R.out];simp only;rw[hK,if_neg h0,I.out]);clear hK R I
 go_wp2_with fail
 refine(yI C N K 1 B b _ O).mono ?_;rintro r w5 ⟨rfl,H5,e5,k5,s5,q5⟩;have hL:=s5.blk O hi areaT;have s05:=L.trans s5;have kC:H5.sp.length=C.sp.length:=by have:=(jX.hold ⟨C.ma,N⟩ K 1).sp;rw[<-q5]at this;simp only[tV]at this;exact this
 have kB:p<H5.sp.length:=by rw[kC];exact hv
 rw[<-q5]at c;have c:=ae c.out;clear q5 s5 L O hi kC;have d:=hL.cell;unfold ky at d;cases hsh:A.sh with
 | false=>
  rw[hsh]at d c;rw[mH]at c
  go_wp2_with fail
  refine(jl H5 e5 n p ⟨1,K,_⟩ B b _ k5 kB).mono ?_;rintro r w9 ⟨rfl,hh⟩;go_wp2;go_ret;rw[c.out];exact⟨rfl,KR.trans s05 hh⟩
 | true=>
  rw[hsh]at d c;rw[lQ]at c
  go_wp2_with fail
  refine(jl H5 e5 n p ⟨1,K,_⟩ B b _ k5 kB).mono ?_;rintro r w9 ⟨rfl,hh⟩;go_wp2;go_ret;rw[c.out];exact⟨rfl,KR.trans s05 hh⟩
theorem Qc(H:MH)(b:Nat)(w:World)(G:aG w b (fF H) 45)(h:FK w H)(X:lG H.ma=0) :
  Calls Tryz.prog 81 #[.pointer (some ⟨b,0,none⟩)] w λr w'=>r = .returned (.int .i64 0)/\Below w.heap.size w w':=by
 have o:=ae X;clear X;go_enter func81,ntmps81;go_upto_region 1 with(fail);refine aV 28 [_,_,_,_,.v (.int .i64 (bv H.m)),_,_,_,_,.v (.int .i64 (dH H.sl)),_,_,_,_,.v (.int .i64 (bV H.sw)),_,_,_,_,.v (.int .i64 (bV H.dk)),_,_,_,_,.v (.int .i64 (aR (cK H.fi H.ct))),.r 25 ((XC w.heap.size H)),.v (.int .i64 5),_] (Gk rfl (Gk rfl (Gf b 0 rfl rfl (Gr (.agg #[.slice H.af H.m.fs.length H.cf,.int .i64 H.m.hand]) (λρ y W A a=>(bH rfl (aL rfl a) (bF (G.ext A) 0 2) underlying32 rfl (by kernel_rfl))) rfl rfl (ah ?_ (Gk rfl (Gk rfl (Gf b 2 rfl rfl (Gl G rfl rfl rfl rfl rfl (ah ?_ (Gk rfl (Gk rfl (Gf b 3 rfl rfl (Gr (.agg #[.slice H.wb H.sw.blocks.length H.cwb,.slice H.wq H.sw.queue.length H.cwq]) (λρ y W A a=>(bH rfl (aL rfl a) (bF (G.ext A) 3 2) underlying38 rfl (by kernel_rfl))) rfl rfl (ah ?_ (Gk rfl (Gk rfl (Gf b 5 rfl rfl (Gr (.agg #[.slice H.db H.dk.blocks.length H.cdb,.slice H.dq H.dk.queue.length H.cdq]) (λρ y W A a=>(bH rfl (aL rfl a) (bF (G.ext A) 5 2) underlying38 rfl (by kernel_rfl))) rfl rfl (ah ?_ (Gk rfl (Gk rfl (Gf b 7 rfl rfl (Gr (.agg #[.slice H.ai H.fi.length H.ci,.int .i64 H.ct]) (λρ y W A a=>(bH rfl (aL rfl a) (bF (G.ext A) 7 2) underlying41 rfl (by kernel_rfl))) rfl rfl (ah ?_ (ah ?_ (ah ?_ (Gr (.int .i64 0) (λρ y W A a=>(run_move (.inl rfl) (aL rfl a))) rfl rfl (aI))))))))))))))))))))))))))))) (λ_=>rfl) rfl ?_
 .intro ρ y W D F A C;have kw:=D 12 3 rfl;have h3:y 3=_:=C 3 rfl;have E:=eF0 F λ_=>trivial;refine aO _ _ (aj rfl) (aS rfl (E _) func125 (by kernel_rfl) (by kernel_rfl) (by simp only[bW,bQ,aZ,kw,h3,E];rfl)) ?_;refine(vV H.m _ _ W (h.below A).fr).mono ?_;rintro r w1 ⟨rfl,l⟩;exact⟨_,rfl,l,rfl⟩
 .intro ρ y W D F A C;have ku:=D 17 8 rfl;have h8:y 8=_:=C 8 rfl;have E:=eF0 F λ_=>trivial;refine aO _ _ (aj rfl) (aS rfl (E _) func126 (by kernel_rfl) (by kernel_rfl) (by simp only[bW,bQ,aZ,ku,h8,E];rfl)) ?_;refine(xA H.sl _ _ W (h.below A).sl.rd (by have:=h.sl.le;have:=h.sl.mx;unfold maxLen at this;omega)).mono ?_;rintro r w1 ⟨rfl,rfl⟩;exact⟨_,rfl,Below.refl _ _,rfl⟩
 .intro ρ y W D F A C;have ks:=D 22 13 rfl;have kk:y 13=_:=C 13 rfl;have E:=eF0 F λ_=>trivial;refine aO _ _ (aj rfl) (aS rfl (E _) func127 (by kernel_rfl) (by kernel_rfl) (by simp only[bW,bQ,aZ,ks,kk,E];rfl)) ?_;refine(wQ H.sw _ _ _ _ W (h.below A).sw).mono ?_;rintro r w1 ⟨rfl,l⟩;exact⟨_,rfl,l,rfl⟩
 .intro ρ y W D F A C;have kq:=D 27 18 rfl;have ki:y 18=_:=C 18 rfl;have E:=eF0 F λ_=>trivial;refine aO _ _ (aj rfl) (aS rfl (E _) func127 (by kernel_rfl) (by kernel_rfl) (by simp only[bW,bQ,aZ,kq,ki,E];rfl)) ?_;refine(wQ H.dk _ _ _ _ W (h.below A).dk).mono ?_;rintro r w1 ⟨rfl,l⟩;exact⟨_,rfl,l,rfl⟩
 .intro ρ y W D F A C;have ko:=D 32 23 rfl;have kg:y 23=_:=C 23 rfl;have E:=eF0 F λ_=>trivial;refine aO _ _ (aj rfl) (aS rfl (E _) func113 (by kernel_rfl) (by kernel_rfl) (by simp only[bW,bQ,aZ,ko,kg,E];rfl)) ?_;refine(Fy H.fi H.ct _ _ W (h.below A).st h.c64).mono ?_;rintro r w1 ⟨rfl,l⟩;exact⟨_,rfl,l,rfl⟩
 .intro ρ y W D F A C;have kv:=D 13 4 rfl;have h4:y 4=_:=C 4 rfl;have kt:=D 18 9 rfl;have h9:y 9=_:=C 9 rfl;have kr:=D 23 14 rfl;have kj:y 14=_:=C 14 rfl;have kp:=D 28 19 rfl;have kh:y 19=_:=C 19 rfl;have kn:=D 33 24 rfl;have kf:y 24=_:=C 24 rfl;refine jh (.slice (some ⟨W.heap.size,0,none⟩) 5 5) (aj rfl) (by simp[execOp,go_sem,kv.trans h4,kt.trans h9,kr.trans kj,kp.trans kh,kn.trans kf]) ((Below.refl _ _).alloc (az _) (.cells #[.int .i64 (bv H.m),.int .i64 (dH H.sl),.int .i64 (bV H.sw),.int .i64 (bV H.dk),.int .i64 (aR (cK H.fi H.ct))] 47)) ?_;exact⟨_,rfl,aG.new _ _ _⟩
 .intro ρ y W D F A C;have km:=D 34 25 rfl;have ke:=C 25 rfl;obtain⟨ge,hl,_⟩:=ke;refine ak (.int .i64 5) (aj rfl) (by simp[execOp,go_sem,km,hl]) rfl
 intro y W1 hB hD;have hT:((XC w.heap.size H)).r (y 25) W1:=hD 25 (by decide);clear hD;obtain⟨ge,hl,hU⟩:=hT;have hg:Below w.heap.size w W1:=hB;rw[hl];clear hl hB;go_upto_region 2 with(fail)
 go_loopw [36] (fun i wr => ∃(k:Nat),k<=5/\i = .int .i64 k/\Below w.heap.size w wr/\aG wr ge #[.int .i64 (bv H.m),.int .i64 (dH H.sl),.int .i64 (bV H.sw),.int .i64 (bV H.dk),.int .i64 (aR (cK H.fi H.ct))] 47/\Hid (∀j,j<k->(NL H.ma).getD j 0=0)) (fun i _=>5-(intOf i).toNat)
 case atStart=>exact⟨0,bq _,rfl,hg,hU,ae λj M=>absurd M (fq _)⟩
 case round=>
  clear hg hU;obtain⟨k,hk,rfl,d,hx,I⟩:=hrel
  by_cases J:k<5
  .have hK:(k:Int)<5:=by omega
   have kb:wr.cell? ⟨ge,k,none⟩=some (.int .i64 ((NL H.ma).getD k 0)):=by
    rw[hx.cell]
    match k,J with
    | 0,_=>rfl
    | 1,_=>rfl
    | 2,_=>rfl
    | 3,_=>rfl
    | 4,_=>rfl
    | n+5,h'=>omega
   by_cases R:(NL H.ma).getD k 0=0
   .have hi:Hid (∀j,j<k+1->(NL H.ma).getD j 0=0):=ae λj M=>by
     by_cases e:j=k
     .rw[e];exact R
     .exact I.out j (by omega)
    rw[R] at kb;clear R I;go_wp2;go_roundw
    case rel=>exact⟨k+1,by omega,by go_num,d,hx,hi⟩
    case measure=>simp[intOf];omega
   .exact absurd ((PH J I.out R).symm.trans o.out) R
  have hK:¬(k:Int)<5:=by omega
  have hS:=I.out 0 (by omega);have hR:=I.out 1 (by omega);have hi:=I.out 2 (by omega);have hQ:=I.out 3 (by omega);have hO:=I.out 4 (by omega);have e0:=ae (show bv H.m=0 from hS);have e1:=ae (show dH H.sl=0 from hR);have e2:=ae (show bV H.sw=0 from hi);have e3:=ae (show bV H.dk=0 from hQ);have e4:=ae (show aR (cK H.fi H.ct)=0 from hO);clear hS hR hi hQ hO I hx;have g:=G.ext d;have hr:=h.below d;have N:Hid (lG H.ma=if H.sw.blocks.length≠H.sl.length\/(H.dk.blocks.length:Int)≠H.ct\/trimB H.ma=false then 7 else if 4<H.sp.length then 4 else firstE (H.ma.sp.map kM)):=ae (by unfold lG;rw[if_neg (by rw[show bv H.ma.m=0 from e0.out];simp),if_neg (by rw[show dH H.ma.sl=0 from e1.out];simp),if_neg (by rw[show bV H.ma.sw=0 from e2.out];simp),if_neg (by rw[show bV H.ma.dk=0 from e3.out];simp),if_neg (by rw[show aR H.ma.st=0 from e4.out];simp),tV];rfl);go_upto_region 7 with(fail);have Y:=g.cell;unfold fF at Y
  by_cases c1:H.sw.blocks.length=H.sl.length
  .by_cases c2:(H.dk.blocks.length:Int)=H.ct
   .have c1i:(H.sw.blocks.length:Int)=(H.sl.length:Int):=by omega
    have hJ:Hid (lG H.ma=if trimB H.ma=false then 7 else if 4<H.sp.length then 4 else firstE (H.ma.sp.map kM)):=ae (by
     rw[N.out]
     by_cases ct:trimB H.ma=false
     .rw[if_pos (.inr (.inr ct)),if_pos ct]
     .rw[if_neg (by rintro(h | h | h);exact h c1;exact h c2;exact ct h),if_neg ct])
    refine aV 31 [_,_,_,_,_,_,_,_,_,_,_,_,_,_,_,_,_,_,_,_,_,_,_,_,_,_,_,_,.v (.bool (trimB H.ma)),_,.v (.bool (!trimB H.ma))] (Gk rfl (Gk rfl (Gf b 3 rfl rfl (Gf b 3 rfl rfl (Gl g rfl rfl rfl rfl rfl (Gn rfl rfl rfl rfl (Gk rfl (Gk rfl (Gf b 2 rfl rfl (Gl g rfl rfl rfl rfl rfl (Gn rfl rfl rfl rfl (Gb (.bool false) (by simp[go_sem,c1]) rfl rfl rfl rfl rfl (Gk rfl (Gk rfl (Gk rfl (Gf b 5 rfl rfl (Gf b 5 rfl rfl (Gl g rfl rfl rfl rfl rfl (Gn rfl rfl rfl rfl (Gk rfl (Gk rfl (Gf b 7 rfl rfl (Gf b 8 rfl rfl (Gl g rfl rfl rfl rfl rfl (Gb (.bool false) (by simp[go_sem,c2]) rfl rfl rfl rfl rfl (Gk rfl (Gk rfl (Gk rfl (ah ?_ (Gr (.bool (!trimB H.ma)) (λρ y W A a=>Ei rfl (aL rfl a)) rfl rfl (Gk rfl (aI)))))))))))))))))))))))))))))))) (λ_=>rfl) rfl ?_
    .intro ρ y W D F A C;have kl:=D 71 27 rfl;have kd:y 27=_:=C 27 rfl;have E:=eF0 F λ_=>trivial;refine aO _ _ (bG 26 70 false false rfl rfl ((D 70 26 rfl).trans (C 26 rfl))) (aS rfl (E _) func128 (by kernel_rfl) (by kernel_rfl) (by simp only[bW,bQ,aZ,kl,kd,E];rfl)) ?_;refine(Kk H b W (g.ext A) (hr.below A) e4.out e3.out).mono ?_;rintro r w1 ⟨rfl,l⟩;exact⟨_,rfl,l,rfl⟩
    intro y W2 hy _;have t:=ag d hy;clear hy;cases ht:trimB H.ma with
    | false=>
     exact absurd (o.out.symm.trans (hJ.out.trans (if_pos ht))) (by decide)
    | true=>
     have hI:Hid (lG H.ma=if 4<H.sp.length then 4 else firstE (H.ma.sp.map kM)):=ae (by rw[hJ.out,if_neg (by rw[ht];decide)]);clear c1 c2 c1i Y ht;have h5:=h.below t;have Y:=(G.ext t).cell;unfold fF at Y;clear hr g N hJ d
     by_cases c4:4<H.sp.length
     .exact absurd (o.out.symm.trans (hI.out.trans (if_pos c4))) (by decide)
     have h6:Hid (lG H.ma=firstE (H.ma.sp.map kM)):=ae (by rw[hI.out,if_neg c4]);have c4i:¬(4:Int)<(H.sp.length:Int):=by omega
     have hX:Hid ((H.ma.sp.map kM).length=H.sp.length):=ae (by rw[dV,tV]);clear c4 hI;go_upto_region 12 with(fail);clear Y h5
     go_loopw [86] (fun i wr => ∃(k:Nat),k<=H.sp.length/\i = .int .i64 k/\Below w.heap.size w wr/\Hid (∀j (M:j<(H.ma.sp.map kM).length),j<k->(H.ma.sp.map kM)[j]=0)) (fun i _=>H.sp.length-(intOf i).toNat)
     case atStart=>exact⟨0,bq _,rfl,t,ae λj _ M=>absurd M (fq _)⟩
     case round=>
      clear t;obtain⟨k,hk,rfl,d,I⟩:=hrel
      by_cases J:k<H.sp.length
      .obtain⟨bs,os,P,kc,N,hV⟩:=rG (h.below d).sp.rd k J;have q:=rM (h.below d) N;have hK:(k:Int)<(H.sp.length:Int):=by omega
       have hY:k<(H.ma.sp.map kM).length:=by rw[hX.out];exact J
       have hE:Hid ((H.ma.sp.map kM)[k]=kM P.sp):=ae (by
        rw[wR];congr 1;have:H.ma.sp[k]?=some P.sp:=by show(H.sp.map PS.sp)[k]?=_;rw[iV,N];rfl
        exact(cz.1 this).2)
       have z:Hid (kM P.sp≠0->lG H.ma=kM P.sp):=ae λh7=>by rw[h6.out,yR k hY I.out (by rw[hE.out];exact h7),hE.out]
       have hW:Hid (kM P.sp=0->∀j (M:j<(H.ma.sp.map kM).length),j<k+1->(H.ma.sp.map kM)[j]=0):=ae λR j M kz=>by
        by_cases e:j=k
        .subst e;rw[hE.out];exact R
        .exact I.out j M (by omega)
       have c:Hid (kM P.sp=if(bP P.ar).1≠0 then(bP P.ar).1 else if dB P.tb≠0 then dB P.tb else if P.lv=false/\0<P.ar.length+(aT P.tb).length then 7 else 0):=ae rfl;rw[kc];clear I N hE hY;have hs:(yX P).all (·.oneCell')=true:=by rw[<-mO,fA];exact q.one
       go_wp2_with (first | (refine ay _ _ rfl bs (os+k*10) rfl rfl _ hV _ underlying76 rfl space_size ?_) | (refine aK rfl _ _ _ rfl (yX P) rfl rfl rfl space_size hs ?_))
       intro w3 hN K;have hv:=ag d hN;have hL:=q.below hN;have ka:=K.lt;generalize wr.heap.size=gs at K ka ⊢;clear d hN hV q hs;have hZ:=K.cell;unfold yX at hZ;have hA:=hL.ars
       go_wp2_with fail
       refine(ME P.ar P.aa P.ac _ hA.rd (by have:=hA.le;have:=hA.mx;unfold maxLen at this;omega)).mono ?_;rintro r w3' ⟨rfl,u⟩;have O:=K.ext u;have hf:=ag hv u;have hu:=hL.below u;clear hZ K hv hL u hA
       go_wp2_with (refine aK rfl _ _ _ rfl (Kj (bP P.ar)) rfl rfl rfl fau_size (by simp[Kj,Value.oneCell']) ?_)
       intro w4 hp ux;have L:=O.ext hp;have s:=ag hf hp;have x:=hu.below hp;clear O hf hu hp;have hM:=ux.cell;unfold Kj at hM
       by_cases S:(bP P.ar).1=0
       .rw[if_neg (by rw[S];simp)]at c;rw[S]at hM;have kA:=(sI S).1;have ky:(aT P.tb).length<=64:=tK P.tb 64;have hF:IntKind.i64.wrap ((P.ar.length:Int)+((aT P.tb).length:Int))=(P.ar.length:Int)+((aT P.tb).length:Int):=bI _ (by omega);go_upto_region 17 with(fail);clear hM ux S
        go_wp2_with (refine ay _ _ rfl gs 2 rfl rfl _ (bF L 2 8) _ underlying74 tab_agg tab_size ?_)
        refine(FT P.tb (nT P.ts) _ x.tb).mono ?_;rintro r w6 ⟨rfl,hm⟩;replace L:=L.ext hm;replace s:=ag s hm;replace x:=x.below hm;clear hm
        by_cases Z:dB P.tb=0
        .rw[if_neg (by rw[Z];simp)]at c;rw[Z];go_upto_region 20 with(fail);cases hlv:P.lv with
         | true=>
          have hG:Hid (kM P.sp=0):=ae (by rw[c.out,if_neg (by rw[hlv];simp)]);refine aV 14 [_,_,_,_,_,_,_,_,_,_,_,_,_,.v (.bool false)] (Gf gs 0 rfl rfl (Gl L (V:=.bool true) (by simp[yX,hlv]) rfl rfl rfl rfl (Gk rfl (Gk rfl (Gk rfl (Gk rfl (Gk rfl (Gk rfl (Gk rfl (Gk rfl (Gk rfl (Gk rfl (Gk rfl (Gk rfl (aI))))))))))))))) (λ_=>rfl) rfl ?_;intro y W5 p _;have hc:=ag s p;clear p;have hh:=ae (hW.out hG.out);clear hF L x;go_wp2;go_roundw
          case rel=>exact⟨k+1,by omega,by go_num,hc,hh⟩
          case measure=>simp[intOf];omega
         | false=>
          refine aV 14 [_,_,_,_,_,_,_,_,_,.r 9 ((nA w6.heap.size 3 1 (aT P.tb).length ((aT P.tb).map gB))),.v (.int .i64 (aT P.tb).length),_,_,.v (.bool (decide (0<(P.ar.length:Int)+((aT P.tb).length:Int))))] (Gf gs 0 rfl rfl (Gl L (V:=.bool false) (by simp[yX,hlv]) rfl rfl rfl rfl (Gk rfl (Gk rfl (Gf gs 1 rfl rfl (Gl L rfl rfl rfl rfl rfl (Gn rfl rfl rfl rfl (Gf gs 2 rfl rfl (Gr (.agg (nT P.ts)) (λρ y W A a=>(bH rfl (aL rfl a) (bF (L.ext A) 2 8) underlying74 tab_agg tab_size)) rfl rfl (ah ?_ (ah ?_ (Gb (.int .i64 ((P.ar.length:Int)+((aT P.tb).length:Int))) (by simp[go_sem,hF]) rfl rfl rfl rfl rfl (Gb (.bool (decide (0<(P.ar.length:Int)+((aT P.tb).length:Int)))) (by simp[go_sem]) rfl rfl rfl rfl rfl (Gk rfl (aI))))))))))))))) (λ_=>rfl) rfl ?_
          .intro ρ y W D F A C;have h2:=D 112 8 rfl;have h8:y 8=_:=C 8 rfl;have E:=eF0 F λ_=>trivial;refine aO _ _ (bG 3 107 true true rfl rfl ((D 107 3 rfl).trans (C 3 rfl))) (aS rfl (E _) func67 (by kernel_rfl) (by kernel_rfl) (by simp only[bW,bQ,aZ,h2,h8,E];rfl)) ?_;refine(zq P.tb (nT P.ts) W (x.below A).tb).mono ?_;rintro r w1 ⟨v,rfl,ho,l⟩;exact⟨_,rfl,l,ho.mono A.size⟩
          .intro ρ y W D F A C;have h1:=D 113 9 rfl;have h9:=C 9 rfl;obtain⟨a9,c9,e9,_⟩:=Own.rd h9;refine ak (.int .i64 (aT P.tb).length) (bG 3 107 true true rfl rfl ((D 107 3 rfl).trans (C 3 rfl))) (Ki rfl (h1.trans e9) rfl) rfl
          intro y W5 p hC;have kx:((nA w6.heap.size 3 1 (aT P.tb).length ((aT P.tb).map gB))).r (y 9) W5:=hC 9 (by decide);clear hC;have hc:=ag s p;clear p
          by_cases c7:0<P.ar.length+(aT P.tb).length
          .have U:Hid (lG H.ma=7):=ae (by rw[z.out (by rw[c.out,if_pos ⟨hlv,c7⟩];decide),c.out,if_pos ⟨hlv,c7⟩]);exact absurd (o.out.symm.trans U.out) (by decide)
          have hG:Hid (kM P.sp=0):=ae (by rw[c.out,if_neg (λh'=>c7 h'.2)]);have hh:=ae (hW.out hG.out);have C:decide (0<(P.ar.length:Int)+((aT P.tb).length:Int))=false:=decide_eq_false (by omega);rw[C];clear hF L x C c7;go_wp2;go_roundw
          case rel=>exact⟨k+1,by omega,by go_num,hc,hh⟩
          case measure=>simp[intOf];omega
        rw[if_pos Z]at c;have U:Hid (lG H.ma=dB P.tb):=ae (by rw[z.out (by rw[c.out];exact Z),c.out]);exact absurd (U.out.symm.trans o.out) Z
       rw[if_pos S]at c;have U:Hid (lG H.ma=(bP P.ar).1):=ae (by rw[z.out (by rw[c.out];exact S),c.out]);exact absurd (U.out.symm.trans o.out) S
      have hK:¬(k:Int)<(H.sp.length:Int):=by omega
      clear I;go_wp2;go_ret;exact⟨rfl,d⟩
   have hH:Hid (lG H.ma=7):=ae (by rw[N.out,if_pos (.inr (.inl c2))]);exact absurd (o.out.symm.trans hH.out) (by decide)
  have hH:Hid (lG H.ma=7):=ae (by rw[N.out,if_pos (.inl c1)]);exact absurd (o.out.symm.trans hH.out) (by decide)
theorem NW(H:MH)(b:Nat)(w:World)(R:aG w b (fF H) 45)(h:FK w H)(hp0:cachedE H.ma=0) :
  Calls Tryz.prog 82 #[.pointer (some ⟨b,0,none⟩)] w λr w'=>r = .returned (.int .i64 0)/\Below w.heap.size w w':=by
 have z:=ae hp0;clear hp0;have ku:=h.ca.le;have kn:=h.ca.mx;unfold maxLen at kn;go_enter func82,ntmps82;have kf:=R.cell;unfold fF at kf;obtain⟨L,hL⟩:∃L,L=(List.range H.ca.length).map λk=>uS H.ma (zb H.ca k) (H.ca.getD k zCc):=⟨_,rfl⟩;have kq:Hid (L.length=H.ca.length):=ae (by rw[hL];simp);have ks:Hid (cachedE H.ma=firstE L):=ae (by rw[hL];rfl);have kr:Hid (∀k (hk:k<L.length),L[k]=uS H.ma (zb H.ca k) (H.ca.getD k zCc)):=ae λk hk=>by simp[hL]
 clear hL;go_upto_region 2 with(fail);clear kf
 go_loopw [11] (fun i wr => ∃(k:Nat),k<=H.ca.length/\i = .int .i64 k/\Below w.heap.size w wr/\Hid (∀j (hj:j<L.length),j<k->L[j]=0)) (fun i _=>H.ca.length-(intOf i).toNat)
 case atStart=>exact⟨0,bq _,rfl,Below.refl _ _,ae λj _ hj=>absurd hj (fq _)⟩
 case round=>
  obtain⟨k,hk,rfl,hN,hz⟩:=hrel
  by_cases hkl:k<H.ca.length
  .obtain⟨E,D,ht,h4⟩:=kE jc (by decide) (h.below hN).ca.rd k hkl;have ko:(k:Int)<(H.ca.length:Int):=by omega
   have hX:k<L.length:=by rw[kq.out];exact hkl
   have Y:Hid (L[k]=uS H.ma (zb H.ca k) H.ca[k]):=ae (by rw[kr.out k hX,aY,aF hkl];rfl);have n:Hid (L[k]≠0->cachedE H.ma=L[k]):=ae λkm=>by rw[ks.out,yR k hX hz.out km]
   have hW:Hid (L[k]=0->∀j (hj:j<L.length),j<k+1->L[j]=0):=ae λh0 j hj kv=>by
    by_cases e:j=k
    .subst e;exact h0
    .exact hz.out j hj (by omega)
   generalize hLk:L[k]=Lk at *
   have h6:Hid (zb H.ca k=if k=0 then none else H.ca[k-1]?):=ae rfl;generalize hc:H.ca[k]=c at *
   rw[ht];clear hz hX hLk hc
   go_wp2_with (first | (refine ay _ _ rfl E (D+k*3) rfl rfl _ h4 _ underlying122 rfl cached_size ?_) | (refine aK rfl _ _ _ rfl (xe c) rfl rfl rfl cached_size (wB c) ?_))
   intro w3 kj I;have hF:=ag hN kj;have hv:=R.ext hF;have hV:=h.below hF;generalize wr.heap.size=gc at I ⊢;clear kj h4 hN;go_upto_region 4 with(fail);obtain⟨Z,of,F,P,hs,U,hM,hB⟩:∃(Z of F:Nat) (P:PF),(0<=c.f->c.f<H.fi.length->H.ai=some ⟨Z,of,none⟩)/\(0<=c.f->c.f<H.fi.length->F<H.fi.length)/\(0<=c.f->c.f<H.fi.length->c.f=(F:Int)/\aN H.ma.st c.f=P.fi)/\(0<=c.f->c.f<H.fi.length->∀W,Below w3.heap.size w3 W->W.cell? ⟨Z,of+F*2+1,none⟩=some (.slice P.a P.l.length P.c)):=by
    by_cases O:0<=c.f/\c.f<H.fi.length
    .have U:c.f.toNat<H.fi.length:=by omega
     obtain⟨Z,of,P,hs,hP,kw,hB⟩:=xP hV.st.rd c.f.toNat U;refine⟨Z,of,c.f.toNat,P,λ_ _=>hs,λ_ _=>U,λ_ _=>⟨by omega,?_⟩,λ_ _ W A => ?_⟩
     .have:(H.fi.map PF.fi)[c.f.toNat]?=some P.fi:=by rw[iV,hP];rfl
      have h2:=iE (s:=H.ma.st) (F:=c.f.toNat) this;rw[<-h2];congr 1;omega
     obtain⟨bf',of',P',hS,kk,kt,kd⟩:=xP (hV.below A).st.rd c.f.toNat U;rw[hP]at kk;cases kk;rw[hs]at hS;cases hS;exact kd
    .exact⟨0,0,0,⟨0,none,[],0⟩,λh1 h2=>absurd ⟨h1,h2⟩ O,λh1 h2=>absurd ⟨h1,h2⟩ O,λh1 h2=>absurd ⟨h1,h2⟩ O,λh1 h2=>absurd ⟨h1,h2⟩ O⟩
   by_cases c1:c.f<0
   .have d:Hid (c.f<0\/(H.ma.st.fs.length:Int)<=c.f\/c.i<0\/((aN H.ma.st c.f).b.length:Int)<=c.i\/c.k<0\/(H.ma.m.fs.length:Int)<=c.k):=ae (.inl c1);have o:Hid (Lk=3):=ae (by rw[Y.out];exact vK d.out);have C:Hid (cachedE H.ma=3):=ae (by rw[n.out (by rw[o.out];decide),o.out]);exact absurd (z.out.symm.trans C.out) (by decide)
   have hY:Hid (H.ma.st.fs.length=H.fi.length):=ae (dV _)
   by_cases c2:(H.fi.length:Int)<=c.f
   .have d:Hid (c.f<0\/(H.ma.st.fs.length:Int)<=c.f\/c.i<0\/((aN H.ma.st c.f).b.length:Int)<=c.i\/c.k<0\/(H.ma.m.fs.length:Int)<=c.k):=ae (.inr (.inl (by rw[hY.out];exact c2)));have o:Hid (Lk=3):=ae (by rw[Y.out];exact vK d.out);have C:Hid (cachedE H.ma=3):=ae (by rw[n.out (by rw[o.out];decide),o.out]);exact absurd (z.out.symm.trans C.out) (by decide)
   replace hs:=hs (by omega) (by omega);replace U:=U (by omega) (by omega);obtain⟨hM,kb⟩:=hM (by omega) (by omega);replace hB:=hB (by omega) (by omega);have hA:=ae kb;clear kb
   by_cases c3:c.i<0
   .have d:Hid (c.f<0\/(H.ma.st.fs.length:Int)<=c.f\/c.i<0\/((aN H.ma.st c.f).b.length:Int)<=c.i\/c.k<0\/(H.ma.m.fs.length:Int)<=c.k):=ae (.inr (.inr (.inl c3)));have o:Hid (Lk=3):=ae (by rw[Y.out];exact vK d.out);have C:Hid (cachedE H.ma=3):=ae (by rw[n.out (by rw[o.out];decide),o.out]);exact absurd (z.out.symm.trans C.out) (by decide)
   by_cases c4:(P.l.length:Int)<=c.i
   .have d:Hid (c.f<0\/(H.ma.st.fs.length:Int)<=c.f\/c.i<0\/((aN H.ma.st c.f).b.length:Int)<=c.i\/c.k<0\/(H.ma.m.fs.length:Int)<=c.k):=ae (.inr (.inr (.inr (.inl (by rw[hA.out];exact c4)))));have o:Hid (Lk=3):=ae (by rw[Y.out];exact vK d.out);have C:Hid (cachedE H.ma=3):=ae (by rw[n.out (by rw[o.out];decide),o.out]);exact absurd (z.out.symm.trans C.out) (by decide)
   by_cases c5:c.k<0
   .have d:Hid (c.f<0\/(H.ma.st.fs.length:Int)<=c.f\/c.i<0\/((aN H.ma.st c.f).b.length:Int)<=c.i\/c.k<0\/(H.ma.m.fs.length:Int)<=c.k):=ae (.inr (.inr (.inr (.inr (.inl c5)))));have o:Hid (Lk=3):=ae (by rw[Y.out];exact vK d.out);have C:Hid (cachedE H.ma=3):=ae (by rw[n.out (by rw[o.out];decide),o.out]);exact absurd (z.out.symm.trans C.out) (by decide)
   by_cases c6:(H.m.fs.length:Int)<=c.k
   .have d:Hid (c.f<0\/(H.ma.st.fs.length:Int)<=c.f\/c.i<0\/((aN H.ma.st c.f).b.length:Int)<=c.i\/c.k<0\/(H.ma.m.fs.length:Int)<=c.k):=ae (.inr (.inr (.inr (.inr (.inr c6)))));have o:Hid (Lk=3):=ae (by rw[Y.out];exact vK d.out);have C:Hid (cachedE H.ma=3):=ae (by rw[n.out (by rw[o.out];decide),o.out]);exact absurd (z.out.symm.trans C.out) (by decide)
   refine aV 51 [_,_,_,_,_,_,_,_,_,_,_,_,_,_,_,_,_,_,_,_,_,_,_,_,_,_,_,_,_,_,_,_,_,_,_,_,_,_,_,_,_,_,_,_,_,_,_,_,_,_,.v (.bool false)] (Gf gc 0 rfl rfl (Gl I rfl rfl rfl rfl rfl (Gb (.bool false) (by simp[go_sem,c1]) rfl rfl rfl rfl rfl (Gk rfl (Gf gc 0 rfl rfl (Gl I rfl rfl rfl rfl rfl (Gk rfl (Gk rfl (Gf b 7 rfl rfl (Gf b 7 rfl rfl (Gl hv rfl rfl rfl rfl rfl (Gn rfl rfl rfl rfl (Gb (.bool false) (by simp[go_sem,c2]) rfl rfl rfl rfl rfl (Gk rfl (Gk rfl (Gf gc 1 rfl rfl (Gl I rfl rfl rfl rfl rfl (Gb (.bool false) (by simp[go_sem,c3]) rfl rfl rfl rfl rfl (Gk rfl (Gk rfl (Gf gc 1 rfl rfl (Gl I rfl rfl rfl rfl rfl (Gk rfl (Gk rfl (Gf b 7 rfl rfl (Gf b 7 rfl rfl (Gl hv (V:=.slice (some ⟨Z,of,none⟩) H.fi.length H.ci) (by simp[fF,hs]) rfl rfl rfl rfl (Gf gc 0 rfl rfl (Gl I (V:=.int .i64 (F:Int)) (by simp[xe,hM]) rfl rfl rfl rfl (Gr (.pointer (some ⟨Z,of+F*2,none⟩)) (λρ y W A g=>(cO rfl (aL rfl g) (aL rfl g) U underlying39 file_size)) rfl rfl (Gf Z (of+F*2+1) rfl rfl (Gc (.slice P.a P.l.length P.c) (λW A=>by simp[hB _ A]) rfl rfl rfl rfl (Gn rfl rfl rfl rfl (Gb (.bool false) (by simp[go_sem,c4]) rfl rfl rfl rfl rfl (Gk rfl (Gk rfl (Gf gc 2 rfl rfl (Gl I rfl rfl rfl rfl rfl (Gb (.bool false) (by simp[go_sem,c5]) rfl rfl rfl rfl rfl (Gk rfl (Gk rfl (Gf gc 2 rfl rfl (Gl I rfl rfl rfl rfl rfl (Gk rfl (Gk rfl (Gf b 0 rfl rfl (Gf b 0 rfl rfl (Gl hv rfl rfl rfl rfl rfl (Gn rfl rfl rfl rfl (Gb (.bool false) (by simp[go_sem,c6]) rfl rfl rfl rfl rfl (Gk rfl (aI)))))))))))))))))))))))))))))))))))))))))))))))))))) (λ_=>rfl) rfl ?_;intro y W4 hH _;have hD:=ag hF hH;replace I:=I.ext hH;clear hH;obtain⟨K,kg⟩:∃K:Nat,c.k=K:=⟨c.k.toNat,by omega⟩;have hO:K<H.m.fs.length:=by omega
   have hR:=R.ext hD;have h5:=h.below hD;obtain⟨bg,og,kp,hy⟩:=kE fQ (by decide) h5.fr.rd K hO;have M:Hid (Lk=if(aD H.ma K).r<1\/(aD H.ma K).f≠c.f\/(aD H.ma K).i≠c.i then 7 else match zb H.ca k with
    | none=>0
    | some q=>if c.f<q.f\/q.f=c.f/\c.i<=q.i then 2 else 0):=ae (by
    rw[Y.out];unfold uS;rw[if_neg (by rw[hY.out,hA.out];show ¬(c.f<0\/(H.fi.length:Int)<=c.f\/c.i<0\/(P.l.length:Int)<=c.i\/c.k<0\/(H.m.fs.length:Int)<=c.k);omega),kg];rfl)
   have h3:H.m.fs[K]=aD H.ma K:=by have:=uW (m:=H.ma) (f:=K) hO;have h2:H.m.fs[K]?=some (aD H.ma K):=this;rw[aF hO]at h2;exact aM h2
   rw[h3]at hy;generalize aD H.ma K=x at *
   clear h3 hs U hB hA hY hv hV c2 c3 c4 c5 c6 c1 Y hM;go_upto_region 6 with(fail);refine aV 10 [_,_,_,_,_,_,_,_,_,.r 9 ((iN W4.heap.size 66 13))] (Gk rfl (Gk rfl (Gf b 0 rfl rfl (Gf b 0 rfl rfl (Gl hR (V:=.slice (some ⟨bg,og,none⟩) H.m.fs.length H.cf) (by simp[fF,kp]) rfl rfl rfl rfl (Gf gc 2 rfl rfl (Gl I (V:=.int .i64 (K:Int)) (by simp[xe,kg]) rfl rfl rfl rfl (Gr (.pointer (some ⟨bg,og+K*13,none⟩)) (λρ y W A g=>(cO rfl (aL rfl g) (aL rfl g) hO underlying30 frame_size)) rfl rfl (Gr (.agg (tX x)) (λρ y W A g=>(bH rfl (aL rfl g) (hy.below A) underlying66 rfl frame_size)) rfl rfl (ah ?_ (aI))))))))))) (λ_=>rfl) rfl ?_
   .intro ρ y W hw hn A hd;refine jh (.pointer (some ⟨W.heap.size,0,none⟩)) (aj rfl) (by simp[execOp,go_sem]) ((Below.refl _ _).alloc (az _) (.cells #[.int .u8 0,.int .u8 0,.int .u8 0,.int .u8 0,.int .u8 0,.int .u8 0,.int .u8 0,.int .u8 0,.int .i64 0,.bool false,.bool false,.int .i64 0,.int .i64 0] 66)) ?_;exact⟨_,_,rfl,A.size,aG.new _ _ _,rfl⟩
   intro y W5 hG hU;have kl:((iN W4.heap.size 66 13)).r (y 9) W5:=hU 9 (by decide);clear hU;obtain⟨gx,curx,h9,h8,ki,hQ⟩:=kl;rw[h9]
   go_wp2_with (refine gN rfl _ _ _ rfl gx 0 (tX x) rfl rfl _ _ ki (by rw[hQ];exact az _) frame_size (oG x) ?_)
   intro w6 hZ ka;rw[gK _ _ (by rw[hQ];rfl)]at hZ;have hr:Below W4.heap.size W4 w6:=hG.grown ka hG.size (λk hk=>by cases hk;exact h8);have hi:=ag hD hr;have G:=I.ext hr;have t:=R.ext hi;clear ki hG ka I hR h5 hy hr h9;have kc:=hZ.cell;unfold tX at kc;have ke:=G.cell;unfold xe at ke
   by_cases d1:x.r<1
   .have X:Hid (Lk=7):=ae (by rw[M.out,if_pos (.inl d1)]);have C:Hid (cachedE H.ma=7):=ae (by rw[n.out (by rw[X.out];decide),X.out]);exact absurd (z.out.symm.trans C.out) (by decide)
   by_cases d2:x.f=c.f
   rotate_left
   .have X:Hid (Lk=7):=ae (by rw[M.out,if_pos (.inr (.inl d2))]);have C:Hid (cachedE H.ma=7):=ae (by rw[n.out (by rw[X.out];decide),X.out]);exact absurd (z.out.symm.trans C.out) (by decide)
   by_cases d3:x.i=c.i
   rotate_left
   .have X:Hid (Lk=7):=ae (by rw[M.out,if_pos (.inr (.inr d3))]);have C:Hid (cachedE H.ma=7):=ae (by rw[n.out (by rw[X.out];decide),X.out]);exact absurd (z.out.symm.trans C.out) (by decide)
   rw[if_neg (by rintro(h | h | h);exact d1 h;exact h d2;exact h d3)]at M;go_upto_region 9 with(fail);clear kc ke hZ d1 d2 d3;obtain⟨k1,q,J,p,N,hx,h7⟩:∃(k1:Nat) (q:Cc),(0<k->IntKind.i64.wrap ((k:Int)-1)=(k1:Int))/\(0<k->k1<H.ca.length)/\(0<k->∀W,Below w6.heap.size w6 W->W.cell? ⟨E,D+k1*3,none⟩=some (.int .i64 q.f))/\(0<k->∀W,Below w6.heap.size w6 W->W.cell? ⟨E,D+k1*3+1,none⟩=some (.int .i64 q.i))/\(0<k->zb H.ca k=some q):=by
    by_cases h0:0<k
    .have hu:k-1<H.ca.length:=by omega
     have hC:∀W,Below w6.heap.size w6 W->W.cell? ⟨E,D+(k-1)*3,none⟩=some (.int .i64 H.ca[k-1].f)/\W.cell? ⟨E,D+(k-1)*3+1,none⟩=some (.int .i64 H.ca[k-1].i):=λW A=>by obtain⟨bc',oc',c',hT,kh,e1,e2,_⟩:=TU (h.below (ag hi A)).ca.rd (k-1) hu;rw[aF hu]at kh;cases kh;rw[ht]at hT;cases hT;exact⟨e1,e2⟩
     refine⟨k-1,H.ca[k-1],λ_ => ?_,λ_=>hu,λ_ W A=>(hC W A).1,λ_ W A=>(hC W A).2,λ_ => ?_⟩
     .rw[show(k:Int)-1=((k-1:Nat):Int) by omega];exact bI _ (by omega)
     .rw[h6.out,if_neg (by omega),aF hu]
    .exact⟨0,zCc,λS=>absurd S h0,λS=>absurd S h0,λS=>absurd S h0,λS=>absurd S h0,λS=>absurd S h0⟩
   by_cases e1:k=0
   .have e1i:¬(0:Int)<(k:Int):=by omega
    have hJ:Hid (Lk=0):=ae (by rw[M.out,h6.out,if_pos e1]);refine aV 44 [_,_,_,_,_,_,_,_,_,_,_,_,_,_,_,_,_,_,_,_,_,_,_,_,_,_,_,_,_,_,_,_,_,_,_,_,_,_,_,_,_,_,_,.v (.bool false)] (Gk rfl (Gb (.bool false) (by simp[go_sem,e1]) rfl rfl rfl rfl rfl (Gk rfl (Gk rfl (Gk rfl (Gk rfl (Gk rfl (Gk rfl (Gk rfl (Gk rfl (Gk rfl (Gk rfl (Gk rfl (Gk rfl (Gk rfl (Gk rfl (Gk rfl (Gk rfl (Gk rfl (Gk rfl (Gk rfl (Gk rfl (Gk rfl (Gk rfl (Gk rfl (Gk rfl (Gk rfl (Gk rfl (Gk rfl (Gk rfl (Gk rfl (Gk rfl (Gk rfl (Gk rfl (Gk rfl (Gk rfl (Gk rfl (Gk rfl (Gk rfl (Gk rfl (Gk rfl (Gk rfl (Gk rfl (Gk rfl (aI))))))))))))))))))))))))))))))))))))))))))))) (λ_=>rfl) rfl ?_;intro y W7 u _;have hh:=ag hi u;clear u;have hl:=ae (hW.out hJ.out);clear N hx J p G t;go_wp2;go_roundw
    case rel=>exact⟨k+1,by omega,by go_num,hh,hl⟩
    case measure=>simp[intOf];omega
   have e1i:0<k:=by omega
   replace J:=J (by omega);replace p:=p (by omega);replace N:=N (by omega);replace hx:=hx (by omega);have hK:=ae (h7 (by omega));clear h7
   by_cases e2:c.f<q.f
   .have d:Hid (c.f<q.f\/q.f=c.f/\c.i<=q.i):=ae (.inl e2);have hI:Hid (Lk=2):=ae (by rw[M.out,hK.out];simp only;rw[if_pos d.out]);have C:Hid (cachedE H.ma=2):=ae (by rw[n.out (by rw[hI.out];decide),hI.out]);exact absurd (z.out.symm.trans C.out) (by decide)
   by_cases e3:q.f=c.f
   .by_cases e4:c.i<=q.i
    .have d:Hid (c.f<q.f\/q.f=c.f/\c.i<=q.i):=ae (.inr ⟨e3,e4⟩);have hI:Hid (Lk=2):=ae (by rw[M.out,hK.out];simp only;rw[if_pos d.out]);have C:Hid (cachedE H.ma=2):=ae (by rw[n.out (by rw[hI.out];decide),hI.out]);exact absurd (z.out.symm.trans C.out) (by decide)
    have hJ:Hid (Lk=0):=ae (by rw[M.out,hK.out];simp only;rw[if_neg (by omega)]);refine aV 44 [_,_,_,_,_,_,_,_,_,_,_,_,_,_,_,_,_,_,_,_,_,_,_,_,_,_,_,_,_,_,_,_,_,_,_,_,_,_,_,_,_,_,_,.v (.bool false)] (Gk rfl (Gb (.bool true) (by simp[go_sem,e1i]) rfl rfl rfl rfl rfl (Gk rfl (Gk rfl (Gk rfl (Gf b 9 rfl rfl (Gl t (V:=.slice (some ⟨E,D,none⟩) H.ca.length H.cc) (by simp[fF,ht]) rfl rfl rfl rfl (Gk rfl (Gb (.int .i64 (k1:Int)) (by simp[go_sem,J]) rfl rfl rfl rfl rfl (Gr (.pointer (some ⟨E,D+k1*3,none⟩)) (λρ y W A g=>(cO rfl (aL rfl g) (aL rfl g) p underlying42 cached_size)) rfl rfl (Gf E (D+k1*3) rfl rfl (Gc (.int .i64 q.f) (λW A=>by simp[N _ A]) rfl rfl rfl rfl (Gf gc 0 rfl rfl (Gl G rfl rfl rfl rfl rfl (Gb (.bool false) (by simp[go_sem,e2]) rfl rfl rfl rfl rfl (Gk rfl (Gk rfl (Gk rfl (Gf b 9 rfl rfl (Gl t (V:=.slice (some ⟨E,D,none⟩) H.ca.length H.cc) (by simp[fF,ht]) rfl rfl rfl rfl (Gk rfl (Gb (.int .i64 (k1:Int)) (by simp[go_sem,J]) rfl rfl rfl rfl rfl (Gr (.pointer (some ⟨E,D+k1*3,none⟩)) (λρ y W A g=>(cO rfl (aL rfl g) (aL rfl g) p underlying42 cached_size)) rfl rfl (Gf E (D+k1*3) rfl rfl (Gc (.int .i64 q.f) (λW A=>by simp[N _ A]) rfl rfl rfl rfl (Gf gc 0 rfl rfl (Gl G rfl rfl rfl rfl rfl (Gb (.bool true) (by simp[go_sem,e3]) rfl rfl rfl rfl rfl (Gk rfl (Gk rfl (Gk rfl (Gf b 9 rfl rfl (Gl t (V:=.slice (some ⟨E,D,none⟩) H.ca.length H.cc) (by simp[fF,ht]) rfl rfl rfl rfl (Gk rfl (Gb (.int .i64 (k1:Int)) (by simp[go_sem,J]) rfl rfl rfl rfl rfl (Gr (.pointer (some ⟨E,D+k1*3,none⟩)) (λρ y W A g=>(cO rfl (aL rfl g) (aL rfl g) p underlying42 cached_size)) rfl rfl (Gf E (D+k1*3+1) rfl rfl (Gc (.int .i64 q.i) (λW A=>by simp[hx _ A]) rfl rfl rfl rfl (Gf gc 1 rfl rfl (Gl G rfl rfl rfl rfl rfl (Gb (.bool false) (by simp[go_sem,e4]) rfl rfl rfl rfl rfl (Gk rfl (Gk rfl (Gk rfl (aI))))))))))))))))))))))))))))))))))))))))))))) (λ_=>rfl) rfl ?_;intro y W7 u _;have hh:=ag hi u;clear u;have hl:=ae (hW.out hJ.out);clear N hx J p G t;go_wp2;go_roundw
    case rel=>exact⟨k+1,by omega,by go_num,hh,hl⟩
    case measure=>simp[intOf];omega
   have hJ:Hid (Lk=0):=ae (by rw[M.out,hK.out];simp only;rw[if_neg (by omega)]);refine aV 44 [_,_,_,_,_,_,_,_,_,_,_,_,_,_,_,_,_,_,_,_,_,_,_,_,_,_,_,_,_,_,_,_,_,_,_,_,_,_,_,_,_,_,_,.v (.bool false)] (Gk rfl (Gb (.bool true) (by simp[go_sem,e1i]) rfl rfl rfl rfl rfl (Gk rfl (Gk rfl (Gk rfl (Gf b 9 rfl rfl (Gl t (V:=.slice (some ⟨E,D,none⟩) H.ca.length H.cc) (by simp[fF,ht]) rfl rfl rfl rfl (Gk rfl (Gb (.int .i64 (k1:Int)) (by simp[go_sem,J]) rfl rfl rfl rfl rfl (Gr (.pointer (some ⟨E,D+k1*3,none⟩)) (λρ y W A g=>(cO rfl (aL rfl g) (aL rfl g) p underlying42 cached_size)) rfl rfl (Gf E (D+k1*3) rfl rfl (Gc (.int .i64 q.f) (λW A=>by simp[N _ A]) rfl rfl rfl rfl (Gf gc 0 rfl rfl (Gl G rfl rfl rfl rfl rfl (Gb (.bool false) (by simp[go_sem,e2]) rfl rfl rfl rfl rfl (Gk rfl (Gk rfl (Gk rfl (Gf b 9 rfl rfl (Gl t (V:=.slice (some ⟨E,D,none⟩) H.ca.length H.cc) (by simp[fF,ht]) rfl rfl rfl rfl (Gk rfl (Gb (.int .i64 (k1:Int)) (by simp[go_sem,J]) rfl rfl rfl rfl rfl (Gr (.pointer (some ⟨E,D+k1*3,none⟩)) (λρ y W A g=>(cO rfl (aL rfl g) (aL rfl g) p underlying42 cached_size)) rfl rfl (Gf E (D+k1*3) rfl rfl (Gc (.int .i64 q.f) (λW A=>by simp[N _ A]) rfl rfl rfl rfl (Gf gc 0 rfl rfl (Gl G rfl rfl rfl rfl rfl (Gb (.bool false) (by simp[go_sem,e3]) rfl rfl rfl rfl rfl (Gk rfl (Gk rfl (Gk rfl (Gk rfl (Gk rfl (Gk rfl (Gk rfl (Gk rfl (Gk rfl (Gk rfl (Gk rfl (Gk rfl (Gk rfl (Gk rfl (Gk rfl (Gk rfl (aI))))))))))))))))))))))))))))))))))))))))))))) (λ_=>rfl) rfl ?_;intro y W7 u _;have hh:=ag hi u;clear u;have hl:=ae (hW.out hJ.out);clear N hx J p G t;go_wp2;go_roundw
   case rel=>exact⟨k+1,by omega,by go_num,hh,hl⟩
   case measure=>simp[intOf];omega
  have ko:¬(k:Int)<(H.ca.length:Int):=by omega
  clear hz;go_wp2;go_ret;exact⟨rfl,hN⟩
theorem NY(H:MH)(P:PS)(n:Int)(b bs os:Nat)(w:World)(M:aG w b (fF H) 45)(h:FK w H)(hrd:eB w (some ⟨bs,os,none⟩) (tQ P))(hg:P.good w)(har:(bP P.ar).1=0)(htb:dB P.tb=0)(hn:0<=n/\n<64)(hp0:dU H.ma P.sp n=0) :
  Calls Tryz.prog 83 #[.pointer (some ⟨b,0,none⟩),.pointer (some ⟨bs,os,none⟩),.int .i64 n] w λr w'=>r = .returned (.int .i64 0)/\Below w.heap.size w w':=by
 have t:=ae hp0;clear hp0;have hV:∀W,Below w.heap.size w W->W.cell? ⟨bs,os+1,none⟩=some (.slice P.aa P.ar.length P.ac):=λW A=>by obtain⟨b',o',e,hc⟩:=(hrd.below A) 1 _ rfl;cases e;exact hc
 go_enter func83,ntmps83;have kj:=hV w (Below.refl _ _);have hA:=hg.ars
 go_wp2_with fail
 refine(Ir P.ar n P.aa P.ac _ hA.rd (by have:=hA.le;have:=hA.mx;unfold maxLen at this;omega)).mono ?_;rintro r w1 ⟨rfl,hz⟩;have ke:=M.ext hz;have h1:=h.below hz;have hX:=hg.below hz;have hS:=hrd.below hz;clear kj hA
 by_cases hf:il P.ar n<0
 .have hq:Hid (dU H.ma P.sp n=5):=ae (PV hf);exact absurd (t.out.symm.trans hq.out) (by decide)
 have L:Hid (dU H.ma P.sp n=(let a:=P.ar.getD (il P.ar n).toNat zAr
  let e:=dK P.tb n
  if e.k=2 then(if(H.sl.length:Int)<=e.n\/a.sh=true then 7 else 0)
  else if(H.m.fs.length:Int)<=e.n then 3 else
  let f:=jv H.ma e.n;let of:=decide (0<=a.fi)&&decide (f.f=a.fi)&&decide (f.i=a.ba+n-a.fr)
  if 0<=f.f/\of=false\/a.sh=true/\of=false\/a.sh=false/\of=true/\e.w=true\/e.w=true/\a.wr=false then 7
  else if f.f<0/\e.w=true/\1<f.r then 7 else 0)):=ae (by unfold dU;exact if_neg hf)
 obtain⟨k,hk,hP,_⟩:=DD (q:=oD n) (l:=P.ar) (by show 0<=il P.ar n;omega);have hW : il P.ar n=k:=hk;rw[hW,bu,aY,aF hP]at L;simp only[qh]at L;have kw:¬(k:Int)<0:=by omega
 rw[hW];obtain⟨I,F,km,hU⟩:=kE rW (by decide) hX.ars.rd k hP;have kh:=(sI har).2 _ (eu hP);have hN:=(bM kh).1;have kv:=(bD _).1 (qL htb n);generalize P.ar[k]=a at *
 generalize hge:dK P.tb n=e at *
 have ka:=ae hge;clear hk hW hf kh hge;go_upto_region 4 with(fail);refine ko 15 [_,_,_,_,_,_,_,_,_,_,_,.v (.agg (jy e)),.r 12 ((iN w1.heap.size 68 3)),.v (.pointer (some ⟨I,F+k*7,none⟩)),.y 14 ((Lc 12 w1.heap.size 68 (mZ (.agg (jy e)))))] (λW=>Below w1.heap.size w1 W) dS (Below.refl _ _) (Yk dS rfl (Yk dS rfl (Yf dS bs (os+1) rfl rfl (Yc dS (.slice (some ⟨I,F,none⟩) P.ar.length P.ac) (λW A=>by simp[hV _ (ag hz A),km]) rfl rfl rfl rfl (Yk dS rfl (Yr dS (.pointer (some ⟨I,F+k*7,none⟩)) (λρ y W A hB=>(cO rfl (aL rfl hB) (aL rfl hB) hP underlying71 area_size)) rfl rfl (Yk dS rfl (Yk dS rfl (Yf dS bs (os+2) rfl rfl (Yr dS (.agg (nT P.ts)) (λρ y W A hB=>(bH rfl (aL rfl hB) (qG (hS.below A) 2 8) underlying74 tab_agg tab_size)) rfl rfl (Yk dS rfl (ah ?_ (ah ?_ (Yk dS rfl (ah ?_ (aI)))))))))))))))) (λ_=>rfl) rfl ?_
 .intro ρ y W hw hn A hd;refine iY dS A (mZ (.agg (jy e))) (λ_ _ h=>h) ?_;have kt:=hw 30 9 rfl;have h9:y 9=_:=hd 9 rfl;have ks:=hw 31 10 rfl;have kq:y 10=_:=hd 10 rfl;have EF:=eF0 hn λ_=>trivial;refine aO _ _ (aj rfl) (aS rfl (EF _) func42 (by kernel_rfl) (by kernel_rfl) (by simp only[bW,bQ,aZ,kt,h9,ks,kq,EF];rfl)) ?_;refine(zS P.tb (nT P.ts) n W (hX.below A).tb).mono ?_;rintro r w2 ⟨rfl,kk⟩;rw[ka.out];exact⟨_,rfl,kk,rfl⟩
 .intro ρ y W hw hn A hd;refine iY dS A ((iN w1.heap.size 68 3)) (λ_ _ h=>h) ?_;refine jh (.pointer (some ⟨W.heap.size,0,none⟩)) (aj rfl) (by simp[execOp,go_sem,bU]) ((Below.refl _ _).alloc (az _) (.cells #[.int .i64 0,.int .i64 0,.bool false] 68)) ?_;exact⟨_,_,rfl,A.size,aG.new _ _ _,rfl⟩
 .intro ρ y W hw hn A hd;have E9:=hw 9 12 rfl;have kn:=hd 12 rfl;have kr:=hw 32 11 rfl;have kp:y 11=_:=hd 11 rfl;obtain⟨g3,cur3,e9,kb,kf,h7⟩:=kn;refine mh (aj rfl) _ _ _ rfl g3 0 (.agg (jy e)) (jy e).toList (E9.trans e9) (kr.trans kp) rfl cur3 _ kf (by rw[h7];exact az _) entry_size (bT (by simp[jy,Value.oneCell'])) ?_;intro w1 hD h8;rw[gK cur3 _ (by rw[h7];rfl)]at hD;refine⟨A.grown h8 A.size (λk hk=>by cases hk;exact kb),⟨g3,_,e9,kb,hD,rfl⟩,?_⟩;intro k hk ki
  match k,hk,ki with
  | 0,_,_|1,_,_|2,_,_|3,_,_|4,_,_|5,_,_|6,_,_|7,_,_|8,_,_|9,_,_|10,_,_|11,_,_=>exactλh=>h
  | 12,_,_=>exactλq=>kZ q hD (λ_=>rfl) ⟨_,kf⟩ h8
  | 13,_,_=>exactλh=>h
  | 14,_,h=>exact absurd rfl h
  | n+15,h,_=>exact absurd h (by omega)
 intro y w4 hC hO;replace hC:Below w1.heap.size w1 w4:=hC;have h0:((iN w1.heap.size 68 3)).r (y 12) w4:=hO 12 (by decide);have hZ:=hO 14 (by decide);clear hO;simp only[dm,bU,bQ,aZ];obtain⟨ge,cce,hT,ku,kg,kc⟩:=hZ;have hY : cce=jy e:=by simpa[mZ]using kc
 subst hY;rw[hT];have hy:=hC;have hu:=ag hz hy;have E:=kg;have hL:=M.ext hu;have h4:=h.below hu;have hM:=hU.below hy;clear hC hy hT kg hU hS ke h1 hz hV hX h0;have hF:∀j u,(mX a)[j]?=some u->∀W,Below w4.heap.size w4 W->W.cell? ⟨I,F+k*7+j,none⟩=some u:=λj u hj W A=>by obtain⟨b',o',e',hc⟩:=(hM.below A) j u hj;cases e';exact hc
 have J:=hF 3 _ rfl;have G:=hF 4 _ rfl;have D:=hF 5 _ rfl;have hG:=hF 6 _ rfl;have hH:∀W,Below w4.heap.size w4 W->W.cell? ⟨I,F+k*7,none⟩=some (.int .i64 a.fr):=hF 0 _ rfl;have g:=E.cell;unfold jy at g;clear hF hM
 by_cases X:e.k=2
 .rw[if_pos X]at L;rw[X]at g;go_upto_region 6 with(fail);clear g X
  by_cases c1:(H.sl.length:Int)<=e.n
  .have hq:Hid (dU H.ma P.sp n=7):=ae (by rw[L.out,if_pos (.inl c1)]);exact absurd (t.out.symm.trans hq.out) (by decide)
  cases c2:a.sh with
  | true=>
   have hq:Hid (dU H.ma P.sp n=7):=ae (by rw[L.out,if_pos (.inr c2)]);exact absurd (t.out.symm.trans hq.out) (by decide)
  | false=>
   have hq:Hid (dU H.ma P.sp n=0):=ae (by rw[L.out,if_neg (by rw[c2];simp;omega)]);refine aV 14 [_,_,_,_,_,_,_,_,_,_,_,_,_,.v (.bool false)] (Gf ge 1 rfl rfl (Gl E rfl rfl rfl rfl rfl (Gk rfl (Gk rfl (Gf b 2 rfl rfl (Gl hL rfl rfl rfl rfl rfl (Gn rfl rfl rfl rfl (Gb (.bool false) (by simp[go_sem,c1]) rfl rfl rfl rfl rfl (Gk rfl (Gk rfl (Gk rfl (Gf I (F+k*7+4) rfl rfl (Gc (.bool false) (λW A=>by simp[G _ A,c2]) rfl rfl rfl rfl (Gk rfl (aI))))))))))))))) (λ_=>rfl) rfl ?_;intro y S o _;have s:=ag hu o;clear o;go_wp2;go_ret;exact⟨rfl,s⟩
 rw[if_neg X]at L;obtain⟨K,hK⟩:∃K:Nat,e.n=K:=⟨e.n.toNat,by omega⟩;rw[hK]at L;go_upto_region 9 with(fail);clear g
 by_cases c3:(H.m.fs.length:Int)<=(K:Int)
 .have hq:Hid (dU H.ma P.sp n=3):=ae (by rw[L.out,if_pos c3]);exact absurd (t.out.symm.trans hq.out) (by decide)
 rw[if_neg c3]at L;have c3e:¬(H.m.fs.length:Int)<=e.n:=by omega
 refine aV 9 [_,_,_,_,_,_,_,_,_] (Gf ge 1 rfl rfl (Gl E rfl rfl rfl rfl rfl (Gk rfl (Gk rfl (Gf b 0 rfl rfl (Gf b 0 rfl rfl (Gl hL rfl rfl rfl rfl rfl (Gn rfl rfl rfl rfl (Gb (.bool false) (by simp[go_sem,c3e]) rfl rfl rfl rfl rfl (aI)))))))))) (λ_=>rfl) rfl ?_;intro y S o _;have s:=ag hu o;have hR:K<H.m.fs.length:=by omega
 replace E:=E.ext o;have hp:=M.ext s;have h5:=h.below s;have C:∀ {u:Value} {z:Addr},(∀W,Below w4.heap.size w4 W->W.cell? z=some u)->∀W,Below S.heap.size S W->W.cell? z=some u:=λhh W A=>hh W (ag o A);replace hH:=C hH;replace J:=C J;replace G:=C G;replace D:=C D;replace hG:=C hG;obtain⟨Z,U,kl,hr⟩:=kE fQ (by decide) h5.fr.rd K hR;have h3:H.m.fs[K]=aD H.ma K:=by have:=uW (m:=H.ma) (f:=K) hR;have h2:H.m.fs[K]?=some (aD H.ma K):=this;rw[aF hR]at h2;exact aM h2
 rw[h3]at hr;have d:Hid (dU H.ma P.sp n=(let of:=decide (0<=a.fi)&&decide ((aD H.ma K).f=a.fi)&&decide ((aD H.ma K).i=a.ba+n-a.fr)
  if 0<=(aD H.ma K).f/\of=false\/a.sh=true/\of=false\/a.sh=false/\of=true/\e.w=true\/e.w=true/\a.wr=false then 7
  else if(aD H.ma K).f<0/\e.w=true/\1<(aD H.ma K).r then 7 else 0)):=ae (by rw[L.out];rfl)
 generalize aD H.ma K=x at *
 clear L h3 o hL h4 hu c3 C;go_upto_region 11 with(fail);refine aV 9 [_,_,_,_,_,_,_,_,.v (.pointer (some ⟨Z,U+K*13,none⟩))] (Gk rfl (Gk rfl (Gf b 0 rfl rfl (Gf b 0 rfl rfl (Gl hp (V:=.slice (some ⟨Z,U,none⟩) H.m.fs.length H.cf) (by simp[fF,kl]) rfl rfl rfl rfl (Gf ge 1 rfl rfl (Gl E (V:=.int .i64 (K:Int)) (by simp[jy,hK]) rfl rfl rfl rfl (Gr (.pointer (some ⟨Z,U+K*13,none⟩)) (λρ y W A hB=>(cO rfl (aL rfl hB) (aL rfl hB) hR underlying30 frame_size)) rfl rfl (Gk rfl (aI)))))))))) (λ_=>rfl) rfl ?_;intro y W7 hv _;have hJ:=ag s hv;have ex7:=E.ext hv;have kd:=M.ext hJ;have C:∀ {u:Value} {z:Addr},(∀W,Below S.heap.size S W->W.cell? z=some u)->∀W,Below W7.heap.size W7 W->W.cell? z=some u:=λhh W A=>hh W (ag hv A);replace hH:=C hH;replace J:=C J;replace G:=C G;replace D:=C D;replace hG:=C hG;have hI:=hr.below hv;clear E hp hv C hr s h5;have hD:IntKind.i64.wrap (a.ba+n)=a.ba+n:=bI _ (by obtain⟨⟨z1,z2⟩,⟨z3,z4⟩,z5,z6⟩:=hN;omega);have h6:IntKind.i64.wrap (a.ba+n-a.fr)=a.ba+n-a.fr:=bI _ (by obtain⟨⟨z1,z2⟩,⟨z3,z4⟩,z5,z6⟩:=hN;omega);go_upto_region 12 with(fail);refine aV 12 [_,_,_,_,_,_,_,_,_,_,_,.v (.int .i64 (a.ba+n-a.fr))] (Gk rfl (Gk rfl (Gf I (F+k*7+6) rfl rfl (Gc (.int .i64 a.ba) (λW A=>by simp[hG _ A]) rfl rfl rfl rfl (Gk rfl (Gb (.int .i64 (a.ba+n)) (by simp[go_sem,hD]) rfl rfl rfl rfl rfl (Gk rfl (Gk rfl (Gf I (F+k*7) rfl rfl (Gc (.int .i64 a.fr) (λW A=>by simp[hH _ A]) rfl rfl rfl rfl (Gb (.int .i64 (a.ba+n-a.fr)) (by simp[go_sem,h6]) rfl rfl rfl rfl rfl (Gk rfl (aI))))))))))))) (λ_=>rfl) rfl ?_;intro y S o _;have s:=ag hJ o;have E:=ex7.ext o;have hp:=M.ext s;have C:∀ {u:Value} {z:Addr},(∀W,Below W7.heap.size W7 W->W.cell? z=some u)->∀W,Below S.heap.size S W->W.cell? z=some u:=λhh W A=>hh W (ag o A);replace J:=C J;replace G:=C G;replace D:=C D;have hr:=hI.below o;clear ex7 kd o C hI hJ hD h6 hH hG;have hQ:∀j u,(pR x)[j]?=some u->∀W,Below S.heap.size S W->W.cell? ⟨Z,U+K*13+j,none⟩=some u:=λj u hj W A=>by obtain⟨b',o',e',hc⟩:=(hr.below A) j u hj;cases e';exact hc
 have hx:=hQ 8 _ rfl;have N:=hQ 11 _ rfl;have hs:=hQ 12 _ rfl;clear hQ hr;go_upto_region 13 with(fail)
 by_cases g1:0<=a.fi
 .by_cases g2:x.f=a.fi
  .by_cases g3:x.i=a.ba+n-a.fr
   .skip;refine aV 25 [_,_,_,_,_,_,_,_,_,_,_,_,_,_,_,_,_,_,_,_,_,_,_,_,.v (.bool true)] (Gk rfl (Gk rfl (Gf I (F+k*7+5) rfl rfl (Gc (.int .i64 a.fi) (λW A=>by simp[D _ A]) rfl rfl rfl rfl (Gb (.bool true) (by simp[go_sem,g1]) rfl rfl rfl rfl rfl (Gk rfl (Gk rfl (Gk rfl (Gf Z (U+K*13+11) rfl rfl (Gc (.int .i64 x.f) (λW A=>by simp[N _ A]) rfl rfl rfl rfl (Gk rfl (Gk rfl (Gf I (F+k*7+5) rfl rfl (Gc (.int .i64 a.fi) (λW A=>by simp[D _ A]) rfl rfl rfl rfl (Gb (.bool true) (by simp[go_sem,g2]) rfl rfl rfl rfl rfl (Gk rfl (Gk rfl (Gk rfl (Gk rfl (Gf Z (U+K*13+12) rfl rfl (Gc (.int .i64 x.i) (λW A=>by simp[hs _ A]) rfl rfl rfl rfl (Gk rfl (Gb (.bool true) (by simp[go_sem,g3]) rfl rfl rfl rfl rfl (Gk rfl (Gk rfl (aI)))))))))))))))))))))))))) (λ_=>rfl) rfl ?_;intro y W6 c _;have p:=ag s c;have x8:=hx _ c;have x11:=N _ c;have R:=J _ c;have O:=G _ c;have g:=(E.ext c).cell;unfold jy at g;clear c J G D hx N hs E hp;have f1:0<=x.f:=by omega
    have Y:¬x.f<0:=by omega
    replace d:Hid (dU H.ma P.sp n=if a.sh=false/\e.w=true\/e.w=true/\a.wr=false then 7 else 0):=ae (by rw[d.out,decide_eq_true g1,decide_eq_true g2,decide_eq_true g3];simp[Y]);clear g2 g3;cases f2:a.sh with
    | true=>
     rw[f2]at O;cases f3:e.w with
     | false=>
      rw[f3]at g;clear d;go_wp2;go_ret;exact⟨rfl,p⟩
     | true=>
      rw[f3]at g;cases f4:a.wr with
      | false=>
       rw[f4]at R;exact absurd (t.out.symm.trans (show dU H.ma P.sp n=7 by rw[d.out];simp[*];try omega)) (by decide)
      | true=>
       rw[f4]at R;clear d;go_wp2;go_ret;exact⟨rfl,p⟩
    | false=>
     rw[f2]at O;cases f3:e.w with
     | true=>
      rw[f3]at g;exact absurd (t.out.symm.trans (show dU H.ma P.sp n=7 by rw[d.out];simp[*];try omega)) (by decide)
     | false=>
      rw[f3]at g;clear d;go_wp2;go_ret;exact⟨rfl,p⟩
   skip;refine aV 25 [_,_,_,_,_,_,_,_,_,_,_,_,_,_,_,_,_,_,_,_,_,_,_,_,.v (.bool false)] (Gk rfl (Gk rfl (Gf I (F+k*7+5) rfl rfl (Gc (.int .i64 a.fi) (λW A=>by simp[D _ A]) rfl rfl rfl rfl (Gb (.bool true) (by simp[go_sem,g1]) rfl rfl rfl rfl rfl (Gk rfl (Gk rfl (Gk rfl (Gf Z (U+K*13+11) rfl rfl (Gc (.int .i64 x.f) (λW A=>by simp[N _ A]) rfl rfl rfl rfl (Gk rfl (Gk rfl (Gf I (F+k*7+5) rfl rfl (Gc (.int .i64 a.fi) (λW A=>by simp[D _ A]) rfl rfl rfl rfl (Gb (.bool true) (by simp[go_sem,g2]) rfl rfl rfl rfl rfl (Gk rfl (Gk rfl (Gk rfl (Gk rfl (Gf Z (U+K*13+12) rfl rfl (Gc (.int .i64 x.i) (λW A=>by simp[hs _ A]) rfl rfl rfl rfl (Gk rfl (Gb (.bool false) (by simp[go_sem,g3]) rfl rfl rfl rfl rfl (Gk rfl (Gk rfl (aI)))))))))))))))))))))))))) (λ_=>rfl) rfl ?_;intro y W6 c _;have p:=ag s c;have x8:=hx _ c;have x11:=N _ c;have R:=J _ c;have O:=G _ c;have g:=(E.ext c).cell;unfold jy at g;clear c J G D hx N hs E hp;have ht:(decide (0<=a.fi)&&decide (x.f=a.fi)&&decide (x.i=a.ba+n-a.fr))=false:=by simp[*]
   replace d:Hid (dU H.ma P.sp n=if 0<=x.f\/a.sh=true\/e.w=true/\a.wr=false then 7 else if x.f<0/\e.w=true/\1<x.r then 7 else 0):=ae (by rw[d.out,ht];simp);clear ht g2 g3
   by_cases f1:0<=x.f
   .skip;exact absurd (t.out.symm.trans (show dU H.ma P.sp n=7 by rw[d.out];simp[*];try omega)) (by decide)
   have Y:x.f<0:=by omega
   cases f2:a.sh with
   | true=>
    rw[f2]at O;exact absurd (t.out.symm.trans (show dU H.ma P.sp n=7 by rw[d.out];simp[*];try omega)) (by decide)
   | false=>
    rw[f2]at O;cases f3:e.w with
    | false=>
     rw[f3]at g;clear d;go_wp2;go_ret;exact⟨rfl,p⟩
    | true=>
     rw[f3]at g;cases f4:a.wr with
     | false=>
      rw[f4]at R;exact absurd (t.out.symm.trans (show dU H.ma P.sp n=7 by rw[d.out];simp[*];try omega)) (by decide)
     | true=>
      rw[f4]at R
      by_cases f5:1<x.r
      .skip;exact absurd (t.out.symm.trans (show dU H.ma P.sp n=7 by rw[d.out];simp[*];try omega)) (by decide)
      skip;clear d;go_wp2;go_ret;exact⟨rfl,p⟩
  skip;refine aV 25 [_,_,_,_,_,_,_,_,_,_,_,_,_,_,_,_,_,_,_,_,_,_,_,_,.v (.bool false)] (Gk rfl (Gk rfl (Gf I (F+k*7+5) rfl rfl (Gc (.int .i64 a.fi) (λW A=>by simp[D _ A]) rfl rfl rfl rfl (Gb (.bool true) (by simp[go_sem,g1]) rfl rfl rfl rfl rfl (Gk rfl (Gk rfl (Gk rfl (Gf Z (U+K*13+11) rfl rfl (Gc (.int .i64 x.f) (λW A=>by simp[N _ A]) rfl rfl rfl rfl (Gk rfl (Gk rfl (Gf I (F+k*7+5) rfl rfl (Gc (.int .i64 a.fi) (λW A=>by simp[D _ A]) rfl rfl rfl rfl (Gb (.bool false) (by simp[go_sem,g2]) rfl rfl rfl rfl rfl (Gk rfl (Gk rfl (Gk rfl (Gk rfl (Gk rfl (Gk rfl (Gk rfl (Gk rfl (Gk rfl (Gk rfl (aI)))))))))))))))))))))))))) (λ_=>rfl) rfl ?_;intro y W6 c _;have p:=ag s c;have x8:=hx _ c;have x11:=N _ c;have R:=J _ c;have O:=G _ c;have g:=(E.ext c).cell;unfold jy at g;clear c J G D hx N hs E hp;have ht:(decide (0<=a.fi)&&decide (x.f=a.fi)&&decide (x.i=a.ba+n-a.fr))=false:=by simp[*]
  replace d:Hid (dU H.ma P.sp n=if 0<=x.f\/a.sh=true\/e.w=true/\a.wr=false then 7 else if x.f<0/\e.w=true/\1<x.r then 7 else 0):=ae (by rw[d.out,ht];simp);clear ht g2
  by_cases f1:0<=x.f
  .skip;exact absurd (t.out.symm.trans (show dU H.ma P.sp n=7 by rw[d.out];simp[*];try omega)) (by decide)
  have Y:x.f<0:=by omega
  cases f2:a.sh with
  | true=>
   rw[f2]at O;exact absurd (t.out.symm.trans (show dU H.ma P.sp n=7 by rw[d.out];simp[*];try omega)) (by decide)
  | false=>
   rw[f2]at O;cases f3:e.w with
   | false=>
    rw[f3]at g;clear d;go_wp2;go_ret;exact⟨rfl,p⟩
   | true=>
    rw[f3]at g;cases f4:a.wr with
    | false=>
     rw[f4]at R;exact absurd (t.out.symm.trans (show dU H.ma P.sp n=7 by rw[d.out];simp[*];try omega)) (by decide)
    | true=>
     rw[f4]at R
     by_cases f5:1<x.r
     .skip;exact absurd (t.out.symm.trans (show dU H.ma P.sp n=7 by rw[d.out];simp[*];try omega)) (by decide)
     skip;clear d;go_wp2;go_ret;exact⟨rfl,p⟩
 skip;refine aV 25 [_,_,_,_,_,_,_,_,_,_,_,_,_,_,_,_,_,_,_,_,_,_,_,_,.v (.bool false)] (Gk rfl (Gk rfl (Gf I (F+k*7+5) rfl rfl (Gc (.int .i64 a.fi) (λW A=>by simp[D _ A]) rfl rfl rfl rfl (Gb (.bool false) (by simp[go_sem,g1]) rfl rfl rfl rfl rfl (Gk rfl (Gk rfl (Gk rfl (Gk rfl (Gk rfl (Gk rfl (Gk rfl (Gk rfl (Gk rfl (Gk rfl (Gk rfl (Gk rfl (Gk rfl (Gk rfl (Gk rfl (Gk rfl (Gk rfl (Gk rfl (Gk rfl (Gk rfl (aI)))))))))))))))))))))))))) (λ_=>rfl) rfl ?_;intro y W6 c _;have p:=ag s c;have x8:=hx _ c;have x11:=N _ c;have R:=J _ c;have O:=G _ c;have g:=(E.ext c).cell;unfold jy at g;clear c J G D hx N hs E hp;have ht:(decide (0<=a.fi)&&decide (x.f=a.fi)&&decide (x.i=a.ba+n-a.fr))=false:=by simp[*]
 replace d:Hid (dU H.ma P.sp n=if 0<=x.f\/a.sh=true\/e.w=true/\a.wr=false then 7 else if x.f<0/\e.w=true/\1<x.r then 7 else 0):=ae (by rw[d.out,ht];simp);clear ht g1
 by_cases f1:0<=x.f
 .skip;exact absurd (t.out.symm.trans (show dU H.ma P.sp n=7 by rw[d.out];simp[*];try omega)) (by decide)
 have Y:x.f<0:=by omega
 cases f2:a.sh with
 | true=>
  rw[f2]at O;exact absurd (t.out.symm.trans (show dU H.ma P.sp n=7 by rw[d.out];simp[*];try omega)) (by decide)
 | false=>
  rw[f2]at O;cases f3:e.w with
  | false=>
   rw[f3]at g;clear d;go_wp2;go_ret;exact⟨rfl,p⟩
  | true=>
   rw[f3]at g;cases f4:a.wr with
   | false=>
    rw[f4]at R;exact absurd (t.out.symm.trans (show dU H.ma P.sp n=7 by rw[d.out];simp[*];try omega)) (by decide)
   | true=>
    rw[f4]at R
    by_cases f5:1<x.r
    .skip;exact absurd (t.out.symm.trans (show dU H.ma P.sp n=7 by rw[d.out];simp[*];try omega)) (by decide)
    skip;clear d;go_wp2;go_ret;exact⟨rfl,p⟩
theorem Ct(H:MH)(w:World)(h:FK w H)(J:lV H.ma=0) :
  Calls Tryz.prog 40 #[.agg (fF H)] w λr w'=>r = .returned (.int .i64 0)/\Below w.heap.size w w':=by
 have e1:lG H.ma=0:=rV λe=>by unfold lV at J;rw[if_pos e]at J;exact e J
 have e2:cachedE H.ma=0:=rV λe=>by unfold lV at J;rw[if_neg (by rw[e1];simp),if_pos e]at J;exact e J
 have km:=ae J;clear J;go_enter func40,ntmps40;go_upto_region 1 with(fail);refine iG (λW=>Code.wp _ _ _ _ W) λw1 ki bx1 gO => ?_;have h1:=h.below ki;have F:aG w1 w.heap.size (fF H) 45:=bx1;clear bx1 gO
 go_wp2_with fail
 refine(Qc H w.heap.size _ F h1 e1).mono ?_;rintro r w2 ⟨rfl,kX⟩;have kf:=ag ki kX;have bx2:=F.ext kX;clear F h1 ki kX
 go_wp2_with fail
 refine(NW H w.heap.size _ bx2 (h.below kf) e2).mono ?_;rintro r w3 ⟨rfl,kV⟩;have h5:=ag kf kV;have X:=bx2.ext kV;clear bx2 kf kV;have kk:=(Cz.1 e1).1;have n1:H.m.fs.length<=40:=((dO _).1 kk.fr).1;have n2:H.sl.length<=60:=lu kk.sl;have n3:H.sp.length<=4:=by have:=kk.spl;rw[tV]at this;exact this
 have kC:=ae kk;have kz:=ae (zK.1 e2);have kJ:Hid (lV H.ma=if nI H.ma≠0 then nI H.ma else if countB H.ma=true then 0 else 7):=ae (by unfold lV;rw[if_neg (by rw[e1];simp),if_neg (by rw[e2];simp)]);clear e1 e2 kk;go_upto_region 7 with(fail);have d:=X.cell;unfold fF at d;have ky:=λob=>(X.ext ((Below.refl _ _).alloc (az _) ob)).cell;unfold fF at ky;have gd:=run_make_row' (P:=Tryz.prog) 33 3 (.int .i64 0) 8 underlying33 int_inf rfl .i64 .i64 H.m.fs.length (by omega) (by omega);have gc:=run_make_row' (P:=Tryz.prog) 33 3 (.int .i64 0) 8 underlying33 int_inf rfl .i64 .i64 H.sl.length (by omega) (by omega)
 go_cut [5,6] (fun s5 s6 wx => ∃E A,s5 = .slice (some ⟨E,0,none⟩) H.m.fs.length H.m.fs.length/\s6 = .slice (some ⟨A,0,none⟩) H.sl.length H.sl.length/\E≠A/\w3.heap.size<=E/\w3.heap.size<=A/\Below w3.heap.size w3 wx/\aG wx E (madeCells #[.int .i64 0] H.m.fs.length) 3/\aG wx A (madeCells #[.int .i64 0] H.sl.length) 3)
 case first=>
  go_region
  all_goals (go_wp2_with fail;go_meet)
  .obtain⟨z1,z2,z3⟩:=Oo w3 (madeCells #[.int .i64 0] H.m.fs.length) (madeCells #[.int .i64 0] H.sl.length) 3 3;exact⟨_,_,rfl,rfl,by omega,by omega,by omega,z1,z2,z3⟩
  obtain⟨z1,z2,z3⟩:=Oo w3 (madeCells #[.int .i64 0] H.sl.length) (madeCells #[.int .i64 0] H.m.fs.length) 3 3;exact⟨_,_,rfl,rfl,by omega,by omega,by omega,z1,z3,z2⟩
 case rest=>
  obtain⟨E,A,rfl,rfl,kN,gn,gk,kU,b,a⟩:=hcut;have kA:=ag h5 kU;have bx4:=X.ext kU;have k2:w.heap.size<=E:=bi h5.size gn;have gL:w.heap.size<=A:=bi h5.size gk;have gu:w.heap.size≠E:=by have:=X.lt;omega
  have gY:w.heap.size≠A:=by have:=X.lt;omega
  have kH:IB wc E (lC H.m.fs.length ((H.ca.take 0).map Cc.k)):=by rw[List.take_zero,aZ,KF];unfold IB;rw[<-GI];exact b
  have kF:IB wc A (lC H.sl.length []):=by rw[KF];unfold IB;rw[<-GI];exact a
  clear d ky gd gc b a kU X h5 gn gk;have d:=bx4.cell;unfold fF at d;go_upto_region 9 with(fail);clear d;have qg:=h.ca.le;have gX:=h.ca.mx;unfold maxLen at gX
  go_loopw [37] (fun i wr => ∃(k:Nat),k<=H.ca.length/\i = .int .i64 k/\Below w.heap.size w wr/\aG wr w.heap.size (fF H) 45/\IB wr E (lC H.m.fs.length ((H.ca.take k).map Cc.k))/\IB wr A (lC H.sl.length [])) (fun i _=>H.ca.length-(intOf i).toNat)
  case atStart=>exact⟨0,bq _,rfl,kA,bx4,kH,kF⟩
  case round=>
   clear kA bx4 kH kF;obtain⟨k,hk,rfl,l,F,b,a⟩:=hrel
   by_cases D:k<H.ca.length
   .obtain⟨bc,oc,g1,N⟩:=kE jc (by decide) (h.below l).ca.rd k D;have kP:(k:Int)<(H.ca.length:Int):=by omega
    have g9:0<=H.ca[k].k/\H.ca[k].k<H.m.fs.length:=kz.out.lt _ (eu D);have h7:Hid ((H.ca.take (k+1)).map Cc.k=(H.ca.take k).map Cc.k++[H.ca[k].k]):=ae (by rw[take_at (aF D),jJ];rfl);have kO:((H.ca.take k).map Cc.k).length<=k:=by rw[dV,iO];omega
    generalize H.ca[k]=c at *
    obtain⟨K,gt⟩:∃K:Nat,c.k=K:=⟨c.k.toNat,by omega⟩;have Z:K<H.m.fs.length:=by omega
    rw[gt]at h7;rw[g1];generalize (H.ca.take k).map Cc.k=L at *
    go_wp2_with (first | (refine ay _ _ rfl bc (oc+k*3) rfl rfl _ N _ underlying122 rfl cached_size ?_) | (refine aK rfl _ _ _ rfl (xe c) rfl rfl rfl cached_size (wB c) ?_))
    intro w5 o cx;have hF:=ag l o;have bx5:=F.ext o;have hL:IB w5 E (lC H.m.fs.length L):=b.ext o;have hU:IB w5 A (lC H.sl.length []):=a.ext o;clear l F b a N o;have kS:=cx.cell;unfold xe at kS;rw[gt]at kS;have hX:=hL.cell (qO H.m.fs.length L K Z);have kx:=IC L K;have ka:IntKind.i64.wrap ((cnt L K:Int)+1)=(cnt L K:Int)+1:=bI _ (by omega);have gy:(K:Int)<(H.m.fs.length:Int):=by omega
    go_wp2_with (refine aB rfl _ _ _ rfl E K _ [.int .i64 ((cnt L K:Int)+1)] rfl rfl rfl _ _ hL (by simp[nH];omega) int_one (λu hu=>by cases bB.1 hu;rfl) ?_)
    intro w6 R Y;rw[IB.set (by rw[nH];exact Z),Fh _ _ _ Z,<-h7.out] at R;have z:=hF.grown Y hF.size (λk hk=>by cases hk;exact k2);have G:=bx5.grown Y (λe=>gu (aM e).symm);have hf:IB w6 A (lC H.sl.length []):=aG.grown hU Y (λe=>kN (aM e));clear hF bx5 hU hL kS hX cx Y ka;go_wp2;go_roundw
    case rel=>exact⟨k+1,by omega,by go_num,z,G,R,hf⟩
    case measure=>simp[intOf];omega
   have kP:¬(k:Int)<(H.ca.length:Int):=by omega
   rw[jD (by omega)]at b;have kI:IB wr E (lC H.m.fs.length (mW H.ma 0 [])):=by
    have e:mW H.ma 0 []=H.ca.map Cc.k:=by show H.ca.map Cc.k++[]++[]=_;rw[oZ,oZ]
    rw[e];exact b
   have kG:IB wr A (lC H.sl.length (kW H.ma 0 [])):=a;clear b a;have d:=F.cell;unfold fF at d;go_upto_region 14 with(fail);clear d
   go_loopw [52] (fun i wr => ∃(p:Nat),p<=H.sp.length/\i = .int .i64 p/\Below w.heap.size w wr/\aG wr w.heap.size (fF H) 45/\IB wr E (lC H.m.fs.length (mW H.ma p []))/\IB wr A (lC H.sl.length (kW H.ma p []))/\Hid (∀t∈H.ma.sp.take p,∀i∈aT t.tb,dU H.ma t i=0)) (fun i _=>H.sp.length-(intOf i).toNat)
   case atStart=>exact⟨0,bq _,rfl,l,F,kI,kG,ae λt ht=>by simp at ht⟩
   case round=>
    clear l F kI kG;obtain⟨p,hp,rfl,l,F,b,a,hz⟩:=hrel
    by_cases hpl:p<H.sp.length
    .obtain⟨bs,os,P,kY,hP,N⟩:=rG (h.below l).sp.rd p hpl;have q:=rM (h.below l) hP;have gT:(p:Int)<(H.sp.length:Int):=by omega
     have kl:H.ma.sp[p]?=some P.sp:=by show(H.sp.map PS.sp)[p]?=_;rw[iV,hP];rfl
     have gv:(bP P.ar).1=0:=kC.out.ar P.sp (bS kl);have kp:dB P.tb=0:=kC.out.tb P.sp (bS kl);have hy:=ae kl;have gw:=ae hP;have d:=F.cell;unfold fF at d;rw[kY]at d;clear kl hP
     go_wp2_with (refine ay _ _ rfl bs (os+p*10+2) rfl rfl _ (qG N 2 8) _ underlying74 tab_agg tab_size ?_)
     refine(zq P.tb (nT P.ts) _ q.tb).mono ?_;rintro r w5 ⟨v5,rfl,kL,o⟩;obtain⟨a5,c5,rfl,g6,g5,_,gQ⟩:=kL.rd;have gf:E<wr.heap.size/\A<wr.heap.size:=⟨aG.lt b,aG.lt a⟩;have hF:=ag l o;have bx5:=F.ext o;have hL:IB w5 E (lC H.m.fs.length (mW H.ma p (pG P.tb ((aT P.tb).take 0)))):=b.ext o;have hU:IB w5 A (lC H.sl.length (kW H.ma p (swapT P.tb ((aT P.tb).take 0)))):=a.ext o;have kt:=N.below o;have h9:=q.below o;have k1:=ae gf;clear d l F b a N q o gQ;have k5:=ae (TN P.tb);have gS:=vW P.tb;go_upto_region 18 with(fail)
     go_loopw [65] (fun i wr' => ∃(j:Nat),j<=(aT P.tb).length/\i = .int .i64 j/\Below w.heap.size w wr'/\aG wr' w.heap.size (fF H) 45/\IB wr' E (lC H.m.fs.length (mW H.ma p (pG P.tb ((aT P.tb).take j))))/\IB wr' A (lC H.sl.length (kW H.ma p (swapT P.tb ((aT P.tb).take j))))/\Own wr' wr.heap.size 3 1 (.slice a5 (aT P.tb).length c5) (aT P.tb).length ((aT P.tb).map gB)/\eB wr' (some ⟨bs,os+p*10,none⟩) (tQ P)/\P.good wr'/\Hid (∀i∈(aT P.tb).take j,dU H.ma P.sp i=0)) (fun i _=>(aT P.tb).length-(intOf i).toNat)
     case atStart=>exact⟨0,bq _,rfl,hF,bx5,hL,hU,kL,kt,h9,ae λi I=>by simp at I⟩
     case round=>
      clear hF bx5 hL hU kL kt h9;obtain⟨j,hj,rfl,l,F,b,a,ho,N,q,h6⟩:=hrel;obtain⟨gl,qa⟩:=k1.out
      by_cases hjl:j<(aT P.tb).length
      .have gV:(j:Int)<((aT P.tb).length:Int):=by omega
       obtain⟨_,_,e9,_,_,_,k4⟩:=ho.rd;cases e9;have kM:(aT P.tb)[j]?=some (aT P.tb)[j]:=aF hjl;have gU:=k5.out _ (eu hjl);have ga:(dK P.tb (aT P.tb)[j]).k≠0:=(pX.1 (eu hjl)).2;obtain⟨bp,op,k6,gW⟩:=kD k4 j hjl;generalize hN:(aT P.tb)[j]=n at *
       have h7:Hid ((aT P.tb).take (j+1)=(aT P.tb).take j++[n]):=ae (take_at kM);have gb:=ae kM;have ku:=ae k6;have kw:=(bD _).1 (qL kp n);rw[k6];clear kM hN k4
       go_wp2_with fail
       have hE:dU H.ma P.sp n=0:=rV λhE=>by have:=Nu hy.out gb.out hz.out h6.out hE;have h0:=km.out;rw[kJ.out,this,if_pos hE]at h0;exact hE h0
       refine(NY H P n w.heap.size bs (os+p*10) _ F (h.below l) N q gv kp gU hE).mono ?_;rintro r w6 ⟨rfl,R⟩;have z:=ag l R;have G:=F.ext R;have hg:=aG.ext b R;have hf:=aG.ext a R;have k9:=ho.below R;have kc:=N.below R;have Y:=q.below R;clear l F b a ho N q R gW;have gg:=UA hE;have hM:Hid (∀i∈(aT P.tb).take (j+1),dU H.ma P.sp i=0):=ae λi I=>by
        rw[h7.out]at I;rcases gH.1 I with I|I
        .exact h6.out i I
        .rw[bB.1 I];exact hE
       clear h6 hE
       go_wp2_with (refine ay _ _ rfl bs (os+p*10+2) rfl rfl _ (qG kc 2 8) _ underlying74 tab_agg tab_size ?_)
       refine(zS P.tb (nT P.ts) n _ Y.tb).mono ?_;rintro r w7 ⟨rfl,hS⟩;have h4:((dK P.tb n).k=2->(dK P.tb n).n<H.sl.length)/\((dK P.tb n).k≠2->(dK P.tb n).n<H.m.fs.length):=gg;have k7:pG P.tb ((aT P.tb).take (j+1))=pG P.tb ((aT P.tb).take j)++(if(dK P.tb n).k=1 then[(dK P.tb n).n]else[]):=by rw[h7.out,Rf]
       have k3:swapT P.tb ((aT P.tb).take (j+1))=swapT P.tb ((aT P.tb).take j)++(if(dK P.tb n).k=1 then[]else[(dK P.tb n).n]):=by rw[h7.out,QE]
       have qf:=Qj H.ma p (pG P.tb ((aT P.tb).take j));have g8:=BR P.tb ((aT P.tb).take j);have qe:=NE H.ma p (swapT P.tb ((aT P.tb).take j));have g7:=Ig P.tb ((aT P.tb).take j);have qd:((aT P.tb).take j).length<=64:=by rw[iO];omega
       have qc:H.ma.ca.length=H.ca.length:=rfl;have qb:H.ma.sp.length=H.sp.length:=tV H;generalize dK P.tb n=e at *
       generalize pG P.tb ((aT P.tb).take j)=L1 at *
       generalize swapT P.tb ((aT P.tb).take j)=L2 at *
       have kv:=ae k7;have kq:=ae k3;clear gg k7 k3;have hD:=ag z hS;have U:=G.ext hS;have hJ:=aG.ext hg hS;have hH:=aG.ext hf hS;have k8:=k9.below hS;have ks:=kc.below hS;have gq:=Y.below hS;clear z G hg hf k9 kc Y hS
       go_wp2_with (refine aK rfl _ _ _ rfl (jy e) rfl rfl rfl entry_size (by simp[jy,Value.oneCell']) ?_)
       intro w8 hR ex;have hB:=ag hD hR;have bx8:=U.ext hR;have hI:IB w8 E _:=aG.ext hJ hR;have hG:IB w8 A _:=aG.ext hH hR;have h8:=k8.below hR;have kr:=ks.below hR;have gp:=gq.below hR;clear hD U hJ hH k8 ks gq hR;have hX:=ex.cell;unfold jy at hX
       by_cases M:e.k=1
       .obtain⟨K,hK⟩:∃K:Nat,e.n=K:=⟨e.n.toNat,by omega⟩;have Z:K<H.m.fs.length:=by have:=h4.2 (by omega);omega
        have hm:=kv.out;have hl:=kq.out;rw[if_pos M,hK]at hm;rw[if_pos M,oZ]at hl;rw[M,hK]at hX;have kR:=hI.cell (qO H.m.fs.length (mW H.ma p L1) K Z);have kx:=Qo kz.out p L1 K;have ka:IntKind.i64.wrap ((cnt (mW H.ma p L1) K:Int)+1)=(cnt (mW H.ma p L1) K:Int)+1:=bI _ (by omega);have gy:(K:Int)<(H.m.fs.length:Int):=by omega
        have kd:=ae hm;have kb:=ae hl;clear hm hl h4 M ga kw hK
        go_wp2_with (refine aB rfl _ _ _ rfl E K _ [.int .i64 ((cnt (mW H.ma p L1) K:Int)+1)] rfl rfl rfl _ _ hI (by simp[nH];omega) int_one (λu hu=>by cases bB.1 hu;rfl) ?_)
        intro w9 kh hr;rw[IB.set (by rw[nH];exact Z),Fh _ _ _ Z,<-MO,<-kd.out]at kh;rw[<-kb.out]at hG;have hO:=hB.grown hr hB.size (λk hk=>by cases hk;exact k2);have bx9:=bx8.grown hr (λe=>gu (aM e).symm);have gA:IB w9 A _:=aG.grown hG hr (λe=>kN (aM e));have hW:FK w9 H:=h.below hO;obtain⟨bs',os',P',hT,hY,hV⟩:=rG hW.sp.rd p hpl;have kZ:P' = P:=by have h2:H.ma.sp[p]?=some P.sp:=hy.out;rw[gw.out]at hY;exact(aM hY).symm
        subst kZ;rw[kY] at hT;cases hT;have ke:=hW.ps P' (bS hY);have kK:=h8.grown hr (λg hv e=>by have:=h8.ge g hv;have e2:=aM e;omega);clear hB bx8 hG hI hX ex hr ka kR h8 kr gp hW;go_wp2;go_roundw
        case rel=>exact⟨j+1,by omega,by go_num,hO,bx9,kh,gA,by rw[<-ku.out];exact kK,hV,ke,hM⟩
        case measure=>simp[intOf];omega
       obtain⟨K,hK⟩:∃K:Nat,e.n=K:=⟨e.n.toNat,by omega⟩;have kQ:e.k=2:=by omega
       have Z:K<H.sl.length:=by have:=h4.1 kQ;omega
       have hm:=kv.out;have hl:=kq.out;rw[if_neg M,oZ]at hm;rw[if_neg M,hK]at hl;rw[kQ,hK]at hX;have kR:=hG.cell (qO H.sl.length (kW H.ma p L2) K Z);have kx:=IC (kW H.ma p L2) K;have ka:IntKind.i64.wrap ((cnt (kW H.ma p L2) K:Int)+1)=(cnt (kW H.ma p L2) K:Int)+1:=bI _ (by omega);have gy:(K:Int)<(H.sl.length:Int):=by omega
       have kd:=ae hm;have kb:=ae hl;clear hm hl h4 M kQ ga kw hK
       go_wp2_with (refine aB rfl _ _ _ rfl A K _ [.int .i64 ((cnt (kW H.ma p L2) K:Int)+1)] rfl rfl rfl _ _ hG (by simp[nH];omega) int_one (λu hu=>by cases bB.1 hu;rfl) ?_)
       intro w9 kh hr;rw[IB.set (by rw[nH];exact Z),Fh _ _ _ Z,<-KC,<-kb.out]at kh;rw[<-kd.out]at hI;have hO:=hB.grown hr hB.size (λk hk=>by cases hk;exact gL);have bx9:=bx8.grown hr (λe=>gY (aM e).symm);have gD:IB w9 E _:=aG.grown hI hr (λe=>kN (aM e).symm);have hW:FK w9 H:=h.below hO;obtain⟨bs',os',P',hT,hY,hV⟩:=rG hW.sp.rd p hpl;have kZ:P' = P:=by have h2:H.ma.sp[p]?=some P.sp:=hy.out;rw[gw.out]at hY;exact(aM hY).symm
       subst kZ;rw[kY] at hT;cases hT;have ke:=hW.ps P' (bS hY);have kK:=h8.grown hr (λg hv e=>by have:=h8.ge g hv;have e2:=aM e;omega);clear hB bx8 hG hI hX ex hr ka kR h8 kr gp hW;go_wp2;go_roundw
       case rel=>exact⟨j+1,by omega,by go_num,hO,bx9,gD,kh,by rw[<-ku.out];exact kK,hV,ke,hM⟩
       case measure=>simp[intOf];omega
      have gV:¬(j:Int)<((aT P.tb).length:Int):=by omega
      rw[jD (by omega)]at b a h6;have gE:IB wr E (lC H.m.fs.length (mW H.ma (p+1) [])):=by rw[<-MZ hy.out];exact b
      have gC:IB wr A (lC H.sl.length (kW H.ma (p+1) [])):=by rw[<-Lj hy.out];exact a
      have hM:Hid (∀t∈H.ma.sp.take (p+1),∀i∈aT t.tb,dU H.ma t i=0):=ae λt ht i I=>by
       rw[take_at hy.out]at ht;rcases gH.1 ht with ht|ht
       .exact hz.out t ht i I
       rw[bB.1 ht]at I ⊢;exact h6.out i I
      clear b a ho N q hz h6;go_wp2;go_roundw
      case rel=>
       refine⟨_,_,_,_,_,_,.int .i64 ((p:Int)+1),⟨p+1,by omega,?_,gE,gC,hM⟩,rfl,rfl,rfl,rfl,rfl,rfl,rfl⟩;go_num
      case measure=>simp[intOf];omega
    have gT:¬(p:Int)<(H.sp.length:Int):=by omega
    have kn:p=H.ma.sp.length:=by rw[tV];omega
    rw[kn,Qa]at b;rw[kn,Ms]at a;rw[kn,yB]at hz;have h3:Hid (lV H.ma=if countB H.ma=true then 0 else 7):=ae (by rw[kJ.out,if_neg (by rw[KN hz.out];simp)]);clear hz kJ kn;have d:=F.cell;unfold fF at d;go_upto_region 30 with(fail);clear d
    go_loopw [104] (fun i wr => ∃(k:Nat),k<=H.m.fs.length/\i = .int .i64 k/\Below w.heap.size w wr/\aG wr w.heap.size (fF H) 45/\IB wr E (lC H.m.fs.length (vG H.ma))/\IB wr A (lC H.sl.length (qJ H.ma))/\Hid (∀i,i<k->FV H.ma i=true)) (fun i _=>H.m.fs.length-(intOf i).toNat)
    case atStart=>exact⟨0,bq _,rfl,l,F,b,a,ae λi I=>absurd I (fq _)⟩
    case round=>
     clear l F b a;obtain⟨k,hk,rfl,l,F,b,a,hM⟩:=hrel
     by_cases D:k<H.m.fs.length
     .obtain⟨bg,og,g0,N⟩:=kE fQ (by decide) (h.below l).fr.rd k D;have kP:(k:Int)<(H.m.fs.length:Int):=by omega
      have k0:H.m.fs[k]=aD H.ma k:=by have:=uW (m:=H.ma) (f:=k) D;have h2:H.m.fs[k]?=some (aD H.ma k):=this;rw[aF D]at h2;exact aM h2
      rw[k0]at N;have ko:Hid (FV H.ma k=(decide ((aD H.ma k).r=cnt (vG H.ma) k)&&(decide ((aD H.ma k).f<0)||H.ca.any (isK (k:Int))))):=ae rfl;generalize aD H.ma k=x at *
      rw[g0];clear k0;obtain⟨gi,gm⟩:∃g,g=wr.heap.size:=⟨_,rfl⟩;go_upto_region 31 with(fail);have gl:E<wr.heap.size/\A<wr.heap.size:=⟨aG.lt b,aG.lt a⟩;have gZ:=F.lt;have kT:Below wr.heap.size wr ((wr.alloc (.cells #[.int .i64 0] 3)).alloc (.cells #[.int .u8 0,.int .u8 0,.int .u8 0,.int .u8 0,.int .u8 0,.int .u8 0,.int .u8 0,.int .u8 0,.int .i64 0,.bool false,.bool false,.int .i64 0,.int .i64 0] 66)):=((Below.refl _ _).alloc (az _) _).alloc (by rw[show(wr.alloc (.cells #[.int .i64 0] 3)).heap.size=wr.heap.size+1 from Dq _];omega) _;have e1:(wr.alloc (.cells #[.int .i64 0] 3)).heap.size=wr.heap.size+1:=Dq _;have gG:aG ((wr.alloc (.cells #[.int .i64 0] 3)).alloc (.cells #[.int .u8 0,.int .u8 0,.int .u8 0,.int .u8 0,.int .u8 0,.int .u8 0,.int .u8 0,.int .u8 0,.int .i64 0,.bool false,.bool false,.int .i64 0,.int .i64 0] 66)) wr.heap.size #[.int .i64 0] 3:=(aG.new wr _ _).ext ((Below.refl _ _).alloc (az _) _);have gF:aG ((wr.alloc (.cells #[.int .i64 0] 3)).alloc (.cells #[.int .u8 0,.int .u8 0,.int .u8 0,.int .u8 0,.int .u8 0,.int .u8 0,.int .u8 0,.int .u8 0,.int .i64 0,.bool false,.bool false,.int .i64 0,.int .i64 0] 66)) (wr.heap.size+1) #[.int .u8 0,.int .u8 0,.int .u8 0,.int .u8 0,.int .u8 0,.int .u8 0,.int .u8 0,.int .u8 0,.int .i64 0,.bool false,.bool false,.int .i64 0,.int .i64 0] 66:=by rw[<-e1];exact aG.new _ _ _
      go_wp2_with (first | (refine ay _ _ rfl bg (og+k*13) rfl rfl _ N _ underlying66 rfl frame_size ?_) | (refine aB rfl _ _ _ rfl wr.heap.size 0 _ [.int .i64 (k:Int)] rfl rfl rfl _ _ gG (by show 0+1<=1;decide) int_one (λu hu=>by cases bB.1 hu;rfl) ?_))
      intro w5 o h9;have kB : aG w5 wr.heap.size #[.int .i64 (k:Int)] 3:=o;have gr:=gF.grown h9 (λe=>by have:=aM e;omega);have kg:=kT.grown h9 kT.size (λk hk=>by cases hk;exact az _)
      go_wp2_with (refine gN rfl _ _ _ rfl (wr.heap.size+1) 0 (tX x) rfl rfl _ _ gr (by show 0+13<=13;decide) frame_size (oG x) ?_)
      intro w6 R Y;have O:aG w6 (wr.heap.size+1) (tX x) 66:=by have e2:=gK (#[.int .u8 0,.int .u8 0,.int .u8 0,.int .u8 0,.int .u8 0,.int .u8 0,.int .u8 0,.int .u8 0,.int .i64 0,.bool false,.bool false,.int .i64 0,.int .i64 0]) (tX x) rfl;rw[<-e2];exact R
      have S:aG w6 wr.heap.size #[.int .i64 (k:Int)] 3:=kB.grown Y (λe=>by have:=aM e;omega);have hQ:=kg.grown Y kg.size oG0;have z:=ag l hQ;have G:=F.ext hQ;have hg:IB w6 E _:=aG.ext b hQ;have hf:IB w6 A _:=aG.ext a hQ;obtain⟨gx,gj⟩:∃g,g=wr.heap.size+1:=⟨_,rfl⟩;rw[<-gj]at O ⊢;rw[<-gm]at S ⊢;clear kT kg hQ gG gF o kB gr h9 Y R N l F b a e1 gl gZ gj gm;go_upto_region 32 with(fail)
      by_cases c1:x.r=cnt (vG H.ma) k
      .by_cases c2:0<=x.f
       .skip;refine aV 19 [_,_,_,_,_,_,_,_,_,_,_,_,_,_,.v (.func (.func 85) #[] #[.pointer (some ⟨gi,0,none⟩)]),.v (.bool (H.ca.any (isK (k:Int)))),_,_,.v (.bool (!(H.ca.any (isK (k:Int)))))] (Gf gx 8 rfl rfl (Gl O rfl rfl rfl rfl rfl (Gk rfl (Gl S (V:=.int .i64 (k:Int)) rfl rfl rfl rfl rfl (Gr (.pointer (some ⟨E,k,none⟩)) (λρ y W hb hZ=>(KU rfl (aL rfl hZ) (aL rfl hZ) D underlying33 int_one)) rfl rfl (Gc (.int .i64 (cnt (vG H.ma) k:Int)) (λW hb=>by simp[IB.cell (aG.ext hg hb) (qO H.m.fs.length (vG H.ma) k D)]) rfl rfl rfl rfl (Gb (.bool false) (by simp[go_sem,c1]) rfl rfl rfl rfl rfl (Gk rfl (Gf gx 11 rfl rfl (Gl O rfl rfl rfl rfl rfl (Gb (.bool true) (by simp[go_sem,c2]) rfl rfl rfl rfl rfl (Gk rfl (Gf w.heap.size 9 rfl rfl (Gl G rfl rfl rfl rfl rfl (ah ?_ (ah ?_ (Gr (.bool (!(H.ca.any (isK (k:Int))))) (λρ y W hb hZ=>Ei rfl (aL rfl hZ)) rfl rfl (Gk rfl (Gk rfl (aI)))))))))))))))))))) (λ_=>rfl) rfl ?_
        .intro ρ y W hw hn hb hd;have g4:ρ (.tmp 15) = .pointer (some ⟨gi,0,none⟩):=(hn (.tmp 15) rfl).trans rfl;refine ak (.func (.func 85) #[] #[.pointer (some ⟨gi,0,none⟩)]) (bG 11 120 true true rfl rfl ((hw 120 11 rfl).trans (hd 11 rfl))) (by simp[execOp,go_sem,g4]) rfl
        .intro ρ y W hw hn hb hd;have gJ:=hw 122 13 rfl;have g3:y 13=_:=hd 13 rfl;have gI:=hw 123 14 rfl;have g2:y 14=_:=hd 14 rfl;have EF:=eF0 hn λ_=>trivial;refine aO _ _ (bG 11 120 true true rfl rfl ((hw 120 11 rfl).trans (hd 11 rfl))) (aS rfl (EF _) func84 (by kernel_rfl) (by kernel_rfl) (by simp only[bW,bQ,aZ,gJ,g3,gI,g2,EF];rfl)) ?_;refine(Sr H.ca _ _ W ((h.below z).below hb).ca.rd (by omega) gi k (S.ext hb)).mono ?_;rintro r w1 ⟨rfl,ki⟩;exact⟨_,rfl,ki,rfl⟩
        intro y W7 s _;have hD:=ag z s;have U:=G.ext s;have hJ:=aG.ext hg s;have hH:=aG.ext hf s;clear s z G hg hf S O;cases hA:H.ca.any (isK (k:Int))with
        | true=>
         have hs:Hid (FV H.ma k=true):=ae (by rw[ko.out,decide_eq_true c1,hA];simp);clear c1 c2;have kj:Hid (∀i,i<k+1->FV H.ma i=true):=ae λi I=>by
          by_cases e:i=k
          .rw[e];exact hs.out
          .exact hM.out i (by omega)
         go_wp2;go_roundw
         case rel=>exact⟨k+1,by omega,by go_num,hD,U,hJ,hH,kj⟩
         case measure=>simp[intOf];omega
        | false=>
         have hs:Hid (FV H.ma k=false):=ae (by rw[ko.out,decide_eq_true c1,hA,decide_eq_false (by omega)];rfl);clear c1 c2;have hq:Hid (lV H.ma=7):=ae (by rw[h3.out,if_neg];intro d;exact absurd (KE d k D) (by rw[hs.out];decide));exact absurd (km.out.symm.trans hq.out) (by decide)
       have hs:Hid (FV H.ma k=true):=ae (by rw[ko.out,decide_eq_true c1,decide_eq_true (by omega)];rfl);refine aV 19 [_,_,_,_,_,_,_,_,_,_,_,_,_,_,_,_,_,_,.v (.bool false)] (Gf gx 8 rfl rfl (Gl O rfl rfl rfl rfl rfl (Gk rfl (Gl S (V:=.int .i64 (k:Int)) rfl rfl rfl rfl rfl (Gr (.pointer (some ⟨E,k,none⟩)) (λρ y W hb hZ=>(KU rfl (aL rfl hZ) (aL rfl hZ) D underlying33 int_one)) rfl rfl (Gc (.int .i64 (cnt (vG H.ma) k:Int)) (λW hb=>by simp[IB.cell (aG.ext hg hb) (qO H.m.fs.length (vG H.ma) k D)]) rfl rfl rfl rfl (Gb (.bool false) (by simp[go_sem,c1]) rfl rfl rfl rfl rfl (Gk rfl (Gf gx 11 rfl rfl (Gl O rfl rfl rfl rfl rfl (Gb (.bool false) (by simp[go_sem,c2]) rfl rfl rfl rfl rfl (Gk rfl (Gk rfl (Gk rfl (Gk rfl (Gk rfl (Gk rfl (Gk rfl (Gk rfl (aI)))))))))))))))))))) (λ_=>rfl) rfl ?_;intro y W7 s _;have hD:=ag z s;have U:=G.ext s;have hJ:=aG.ext hg s;have hH:=aG.ext hf s;clear s z G hg hf S O;clear c1 c2;have kj:Hid (∀i,i<k+1->FV H.ma i=true):=ae λi I=>by
        by_cases e:i=k
        .rw[e];exact hs.out
        .exact hM.out i (by omega)
       go_wp2;go_roundw
       case rel=>exact⟨k+1,by omega,by go_num,hD,U,hJ,hH,kj⟩
       case measure=>simp[intOf];omega
      have hs:Hid (FV H.ma k=false):=ae (by rw[ko.out,decide_eq_false c1];rfl);have hq:Hid (lV H.ma=7):=ae (by rw[h3.out,if_neg];intro d;exact absurd (KE d k D) (by rw[hs.out];decide));exact absurd (km.out.symm.trans hq.out) (by decide)
     have kP:¬(k:Int)<(H.m.fs.length:Int):=by omega
     have gP:=(h.below l).sl;have gz:eB wr (some ⟨A,0,none⟩) ((lC H.sl.length (qJ H.ma)).map gB):=λi u I=>⟨A,0,rfl,by rw[ed,aG.cell a];simpa using I⟩;have d:=F.cell;unfold fF at d;have kO:=ae (nH H.sl.length (qJ H.ma));have hq:Hid (lV H.ma=if H.sl=lC H.sl.length (qJ H.ma)then 0 else 7):=ae (by
      rw[h3.out,LF,fA.2 (λi I=>hM.out i (by have:=dG.1 I;have e:H.ma.m.fs.length=H.m.fs.length:=rfl;omega)),lQ];show(if decide (H.sl=lC H.sl.length (qJ H.ma))=true then(0:Int)else 7)=_
      by_cases e:H.sl=lC H.sl.length (qJ H.ma)
      .rw[if_pos e,if_pos (decide_eq_true e)]
      .rw[if_neg e,if_neg (by simp[e])])
     have gM:=n2;generalize hC:lC H.sl.length (qJ H.ma)=C at *
     clear hM h3 hC
     go_wp2_with fail
     rw[show(Value.slice (some ⟨A,0,none⟩) H.sl.length H.sl.length) = .slice (some ⟨A,0,none⟩) C.length H.sl.length from by rw[kO.out]];refine(Li H.sl C H.asl (some ⟨A,0,none⟩) H.csl H.sl.length _ gP.rd gz (by omega) (by rw[kO.out];omega)).mono ?_;rintro r w5 ⟨rfl,o⟩
     by_cases e:H.sl=C
     .rw[show(H.sl==C)=true from by rw[beq_iff_eq];exact e];clear e d;go_wp2;go_ret;exact⟨rfl,ag l o⟩
     rw[show(H.sl==C)=false from by rw[beq_eq_false_iff_ne];exact e];have gR:Hid (lV H.ma=7):=ae (by rw[hq.out,if_neg e]);exact absurd (km.out.symm.trans gR.out) (by decide)
theorem IZ(H:MH)(w:World)(h:FK w H)(hz:Wu H.ma) :
  Calls Tryz.prog 25 #[.agg (fF H)] w λr w' => ∃H' : MH,r = .returned (.agg (fF H'))/\wV w' w.heap.size H'/\H'.ma=H.ma/\(∀p∈H'.fi,∀x,oB p.a=some x->oB H'.asl≠some x)/\Below w.heap.size w w':=by
 have z1:H.m.fs.length<=1000:=hz.fs;have z2:H.sl.length<=1000:=hz.sl;have z3:H.sw.blocks.length<=1000:=hz.swb;have z4:H.sw.queue.length<=1000:=hz.swq;have z5:H.dk.blocks.length<=1000:=hz.dkb;have z6:H.dk.queue.length<=1000:=hz.dkq;have z7:H.ca.length<=1000:=hz.ca;have z8:H.sp.length<=1000:=by have:=hz.sp.1;rw[tV]at this;exact this
 have zf:=hz.fsz;go_enter func25,ntmps25;go_upto_region 1 with(fail);refine uT (λW=>Code.wp _ _ _ _ W) λw1 s bx1 rx1 k1 => ?_;have ki:=h.below s;clear k1;refine ko 7 [_,_,.r 2 ((FP w1.heap.size H.m)),_,_,.r 5 ((nA w1.heap.size 3 1 H.sl.length (H.sl.map gB))),_] (λW=>Below w1.heap.size w1 W) dS (Below.refl _ _) (Yf dS w.heap.size 0 rfl rfl (Yr dS (.agg #[.slice H.af H.m.fs.length H.cf,.int .i64 H.m.hand]) (λρ y W A hy=>(bH rfl (aL rfl hy) (bF (bx1.ext A) 0 2) underlying32 rfl (by kernel_rfl))) rfl rfl (ah ?_ (Yf dS w.heap.size 2 rfl rfl (Yc dS (.slice H.asl H.sl.length H.csl) (λW A=>by simp[(bx1.ext A).cell,fF]) rfl rfl rfl rfl (ah ?_ (Yf dS w.heap.size 0 rfl rfl (aI)))))))) (λ_=>rfl) rfl ?_
 .intro ρ y W D E A F;refine iY dS A ((FP w1.heap.size H.m)) (λ_ _ h=>h) ?_;have E7:=D 7 1 rfl;have h1:y 1=_:=F 1 rfl;have I:=eF0 E λ_=>trivial;refine aO _ _ (aj rfl) (aS rfl (I _) func57 (by kernel_rfl) (by kernel_rfl) (by simp only[bW,bQ,aZ,E7,h1,I];rfl)) ?_;refine(Au H.m _ _ W (ki.below A).fr (by omega)).mono ?_;rintro r w3 ⟨u,rfl,J,s⟩;exact⟨_,rfl,s,u,rfl,J.mono A.size⟩
 .intro ρ y W D E A F;refine iY dS A ((nA w1.heap.size 3 1 H.sl.length (H.sl.map gB))) (λ_ _ h=>h) ?_;have gq:=D 10 4 rfl;have h4:y 4=_:=F 4 rfl;have I:=eF0 E λ_=>trivial;refine aO _ _ (aj rfl) (aS rfl (I _) func58 (by kernel_rfl) (by kernel_rfl) (by simp only[bW,bQ,aZ,gq,h4,I];rfl)) ?_;have hs:=(ki.below A).sl;refine(xy H.sl _ _ W hs.le hs.nl hs.rd (by omega)).mono ?_;rintro r w3 ⟨u,rfl,J,s⟩;exact⟨_,rfl,s,J.mono A.size⟩
 intro y w2 ha ka;replace ha:Below w1.heap.size w1 w2:=ha;have hF:((FP w1.heap.size H.m)).r (y 2) w2:=ka 2 (by decide);have hH:((nA w1.heap.size 3 1 H.sl.length (H.sl.map gB))).r (y 5) w2:=ka 5 (by decide);clear ka;simp only[dm,bU,bQ,aZ];obtain⟨u1,kP,kx⟩:=hF;have kf:Own w2 w1.heap.size 3 1 (y 5) H.sl.length (H.sl.map gB):=hH;obtain⟨a1,c1,rfl,_⟩:=kx.rd;obtain⟨a2,c2,kt,_⟩:=Own.rd kf;rw[kt]at kf;rw[kP,kt];have bx2:=bx1.ext ha;have rx2:=rx1.ext ha;have h0:=ag s ha;have k5:=ki.below ha;have kL:=ae s.size;have gr:=rx2.lt;clear ha bx1 rx1 ki kP kt hH
 go_wp2_with (refine gN rfl _ _ _ rfl w.heap.size 0 #[.slice a1 H.m.fs.length c1,.int .i64 H.m.hand] rfl rfl _ _ bx2 (by show 0+2<=11;decide) mem_size (iT _ _ _ _) ?_)
 intro w3 bx3 hR;have kp:=ax kx bx2 (by decide) hR;have kl:=ax kf bx2 (by decide) hR;have hZ:=h0.grown hR h0.size (λk U=>by cases U;exact az _);have rx3:=rx2.grown hR (λe=>by have:=aM e;omega);have bx3' : aG w3 w.heap.size (fF { H with af:=a1,cf:=c1 }) 45:=bx3;clear kx kf bx2 rx2 k5 hR bx3 h0
 go_wp2_with (refine aB rfl _ _ _ rfl w.heap.size 2 _ [.slice a2 H.sl.length c2] rfl rfl rfl _ _ bx3' (by show 2+1<=11;decide) slots_size (λu hu=>by cases bB.1 hu;rfl) ?_)
 intro Z bx4 hQ;have kn:=ax kp bx3' (by decide) hQ;have hN:=ax kl bx3' (by decide) hQ;have hD:=hZ.grown hQ hZ.size (λk U=>by cases U;exact az _);have rx4:=rx3.grown hQ (λe=>by have:=aM e;omega);have O : aG Z w.heap.size (fF { H with af:=a1,cf:=c1,asl:=a2,csl:=c2 }) 45:=bx4;have kh:=h.below hD;clear kp kl bx3' rx3 hQ bx4 hZ;obtain⟨H4,gw⟩:∃H4:MH,Hid (H4 = { H with af:=a1,cf:=c1,asl:=a2,csl:=c2 }):=⟨_,ae rfl⟩;go_upto_region 2 with(fail);refine ko 10 [_,_,.r 2 ((yY Z.heap.size H.sw)),_,_,.r 5 ((yY Z.heap.size H.dk)),_,_,.r 8 ((NA Z.heap.size (cK H.fi H.ct))),_] (λW=>Below Z.heap.size Z W) dS (Below.refl _ _) (Yf dS w.heap.size 3 rfl rfl (Yr dS (.agg #[.slice H.wb H.sw.blocks.length H.cwb,.slice H.wq H.sw.queue.length H.cwq]) (λρ y W A hy=>(bH rfl (aL rfl hy) (bF (O.ext A) 3 2) underlying38 rfl (by kernel_rfl))) rfl rfl (ah ?_ (Yf dS w.heap.size 5 rfl rfl (Yr dS (.agg #[.slice H.db H.dk.blocks.length H.cdb,.slice H.dq H.dk.queue.length H.cdq]) (λρ y W A hy=>(bH rfl (aL rfl hy) (bF (O.ext A) 5 2) underlying38 rfl (by kernel_rfl))) rfl rfl (ah ?_ (Yf dS w.heap.size 7 rfl rfl (Yr dS (.agg #[.slice H.ai H.fi.length H.ci,.int .i64 H.ct]) (λρ y W A hy=>(bH rfl (aL rfl hy) (bF (O.ext A) 7 2) underlying41 rfl (by kernel_rfl))) rfl rfl (ah ?_ (Yf dS w.heap.size 3 rfl rfl (aI))))))))))) (λ_=>rfl) rfl ?_
 .intro ρ y W D E A F;refine iY dS A ((yY Z.heap.size H.sw)) (λ_ _ h=>h) ?_;have gp:=D 15 1 rfl;have h1:y 1=_:=F 1 rfl;have I:=eF0 E λ_=>trivial;refine aO _ _ (aj rfl) (aS rfl (I _) func59 (by kernel_rfl) (by kernel_rfl) (by simp only[bW,bQ,aZ,gp,h1,I];rfl)) ?_;refine(EK H.sw _ _ _ _ W (kh.below A).sw (by omega) (by omega)).mono ?_;rintro r w3 ⟨u,v,rfl,J,s⟩;exact⟨_,rfl,s,u,v,rfl,J.mono A.size⟩
 .intro ρ y W D E A F;refine iY dS A ((yY Z.heap.size H.dk)) (λ_ _ h=>h) ?_;have gn:=D 18 4 rfl;have h4:y 4=_:=F 4 rfl;have I:=eF0 E λ_=>trivial;refine aO _ _ (aj rfl) (aS rfl (I _) func59 (by kernel_rfl) (by kernel_rfl) (by simp only[bW,bQ,aZ,gn,h4,I];rfl)) ?_;refine(EK H.dk _ _ _ _ W (kh.below A).dk (by omega) (by omega)).mono ?_;rintro r w3 ⟨u,v,rfl,J,s⟩;exact⟨_,rfl,s,u,v,rfl,J.mono A.size⟩
 .intro ρ y W D E A F;refine iY dS A ((NA Z.heap.size (cK H.fi H.ct))) (λ_ _ h=>h) ?_;have gm:=D 21 7 rfl;have h7:y 7=_:=F 7 rfl;have I:=eF0 E λ_=>trivial;refine aO _ _ (aj rfl) (aS rfl (I _) func60 (by kernel_rfl) (by kernel_rfl) (by simp only[bW,bQ,aZ,gm,h7,I];rfl)) ?_;refine(Lr H.fi H.ct _ _ W (kh.below A).st zf).mono ?_;rintro r w3 ⟨u,ps,rfl,J,he,s⟩;exact⟨_,rfl,s,u,ps,_,rfl,J.mono A.size,by unfold cK;rw[he]⟩
 intro y w5 z hE;replace z:Below Z.heap.size Z w5:=z;have hF:((yY Z.heap.size H.sw)).r (y 2) w5:=hE 2 (by decide);have hH:((yY Z.heap.size H.dk)).r (y 5) w5:=hE 5 (by decide);have kE:((NA Z.heap.size (cK H.fi H.ct))).r (y 8) w5:=hE 8 (by decide);clear hE;simp only[dm,bU,bQ,aZ];obtain⟨ub,uq,kO,ke⟩:=hF;obtain⟨vb,vq,kN,kd⟩:=hH;obtain⟨us,ps,ks,kM,kc,kQ⟩:=kE;have k6 : -9223372036854775808<=ks/\ks<=9223372036854775807:=by have e:ks=H.ct:=congrArg St.count kQ;rw[e];exact h.c64
 obtain⟨ab,cb,rfl,_⟩:=ke.b.rd;obtain⟨aq,cq,rfl,_⟩:=ke.q.rd;obtain⟨db,eb,rfl,_⟩:=kd.b.rd;obtain⟨dq,eq,rfl,_⟩:=kd.q.rd;obtain⟨as_,cs,rfl,_⟩:=kc.rd;rw[kO,kN,kM];have k3:Hid (∀p∈ps,∀x,oB p.a=some x->oB a2≠some x):=ae (λp S x hx e=>by have h1:=(je hN e).2.choose_spec.lt;obtain⟨i,hi,rfl⟩:=jM.1 S;have h2:=(je (kc.each i _ (aF hi)) hx).1;omega);have Y:=O.ext z;have rx5:=rx4.ext z;have hY:=ag hD z;have km:=kn.below z;have kk:=hN.below z;have hI:=ae hD.size;clear z O rx4 kh kO kN kM kn hN hD
 go_wp2_with (refine gN rfl _ _ _ rfl w.heap.size 3 #[.slice ab H.sw.blocks.length cb,.slice aq H.sw.queue.length cq] rfl rfl _ _ Y (by show 3+2<=11;decide) disk_size (xG _ _ _ _ _ _) ?_)
 intro w6 X hl;have hX:=hY.grown hl hY.size (λk U=>by cases U;exact az _);have rx6:=rx5.grown hl (λe=>by have:=aM e;omega);have p1:=ax km Y (by decide) hl;have p2:=ax kk Y (by decide) hl;have p3:=ke.keep Y (by decide) (by decide) hl;have p4:=kd.keep Y (by decide) (by decide) hl;have p5:=kc.keep Y (by decide) (by decide) hl;clear Y rx5 hl km kk ke kd kc hY
 go_wp2_with (refine gN rfl _ _ _ rfl w.heap.size 5 #[.slice db H.dk.blocks.length eb,.slice dq H.dk.queue.length eq] rfl rfl _ _ X (by show 5+2<=11;decide) disk_size (xG _ _ _ _ _ _) ?_)
 intro w7 V hj;have hW:=hX.grown hj hX.size (λk U=>by cases U;exact az _);have rx7:=rx6.grown hj (λe=>by have:=aM e;omega);have q1:=ax p1 X (by decide) hj;have q2:=ax p2 X (by decide) hj;have q3:=p3.keep X (by decide) (by decide) hj;have q4:=p4.keep X (by decide) (by decide) hj;have q5:=p5.keep X (by decide) (by decide) hj;clear X rx6 hj p1 p2 p3 p4 p5 hX
 go_wp2_with (refine gN rfl _ _ _ rfl w.heap.size 7 #[.slice as_ ps.length cs,.int .i64 ks] rfl rfl _ _ V (by show 7+2<=11;decide) store_size (vI _ _ _ _) ?_)
 intro w8 bx8 hh;have hC:=hW.grown hh hW.size (λk U=>by cases U;exact az _);have rx8:=rx7.grown hh (λe=>by have:=aM e;omega);have p1:=ax q1 V (by decide) hh;have p2:=ax q2 V (by decide) hh;have p3:=q3.keep V (by decide) (by decide) hh;have p4:=q4.keep V (by decide) (by decide) hh;have p5:=q5.keep V (by decide) (by decide) hh;obtain⟨H8,kC⟩:∃H8:MH,Hid (H8 = { H with af:=a1,cf:=c1,asl:=a2,csl:=c2,wb:=ab,cwb:=cb,wq:=aq,cwq:=cq,db:=db,cdb:=eb,dq:=dq,cdq:=eq,ai:=as_,ci:=cs,fi:=ps,ct:=ks }):=⟨_,ae rfl⟩;have bx8' : aG w8 w.heap.size (fF H8) 45:=by rw[kC.out];exact bx8
 have kg:=h.below hC;clear V rx7 hh bx8 q1 q2 q3 q4 q5 hW;have kz:w8.cell? ⟨w.heap.size,9,none⟩=some (.slice H.ac H.ca.length H.cc):=by rw[bx8'.cell,kC.out];rfl
 go_wp2_with fail
 refine(Jk H.ca H.ac H.cc _ kg.ca.le kg.ca.nl kg.ca.rd (by omega)).mono ?_;rintro r w9 ⟨v9,rfl,kw,hf⟩;obtain⟨a6,c6,rfl,_⟩:=kw.rd;have N:=bx8'.ext hf;have rx9:=rx8.ext hf;have hU:=ag hC hf;have q1:=p1.below hf;have q2:=p2.below hf;have q3:=p3.below hf;have q4:=p4.below hf;have q5:=p5.below hf;have kZ:=ae hC.size;clear kz bx8' rx8 kg p1 p2 p3 p4 p5 hf hC
 go_wp2_with (refine aB rfl _ _ _ rfl w.heap.size 9 _ [.slice a6 H.ca.length c6] rfl rfl rfl _ _ N (by show 9+1<=11;decide) caO_size (λu hu=>by cases bB.1 hu;rfl) ?_)
 intro w10 bx10 g;have ht:=hU.grown g hU.size (λk U=>by cases U;exact az _);have rx10:=rx9.grown g (λe=>by have:=aM e;omega);have p1:=(ax q1 N (by decide) g).mono kL.out;have p2:=(ax q2 N (by decide) g).mono kL.out;have p3:=(q3.keep N (by decide) (by decide) g).mono hI.out;have p4:=(q4.keep N (by decide) (by decide) g).mono hI.out;have p5:=(q5.keep N (by decide) (by decide) g).mono hI.out;have p6:=(ax kw N (by decide) g).mono kZ.out;obtain⟨G,hG⟩:∃G:MH,Hid (G = { H with af:=a1,cf:=c1,asl:=a2,csl:=c2,wb:=ab,cwb:=cb,wq:=aq,cwq:=cq,db:=db,cdb:=eb,dq:=dq,cdq:=eq,ai:=as_,ci:=cs,fi:=ps,ct:=ks,ac:=a6,cc:=c6 }):=⟨_,ae rfl⟩;have bxG:aG w10 w.heap.size (fF G) 45:=by rw[hG.out];rw[kC.out]at bx10;exact bx10
 clear N rx9 g bx10 q1 q2 q3 q4 q5 kw hU;have gs:Hid (G.ap=H.ap/\G.sp=H.sp/\G.cp=H.cp):=ae (by rw[hG.out];exact⟨rfl,rfl,rfl⟩);have kz:w10.cell? ⟨w.heap.size,10,none⟩=some (.slice H.ap H.sp.length H.cp):=by rw[bxG.cell,hG.out];rfl
 have kX:=h.below ht;have kW:Own w10 w.heap.size 76 10 (.slice none 0 0) ([]:List PS).length (([]:List PS).flatMap tQ):=by simpa using Own.nil _ _ _ _
 go_upto_region 6 with(fail);clear kz kX
 go_loopw [3,33] (fun s3 i wr => ∃(q:Nat) (L:List PS) (av:Option Addr) (cv:Nat),q<=H.sp.length/\i = .int .i64 q/\s3 = .slice av L.length cv/\Below w.heap.size w wr/\aG wr w.heap.size (fF G) 45/\aG wr (w.heap.size+1) _ 45 /\
  Own wr w.heap.size 66 13 (.slice a1 H.m.fs.length c1) H.m.fs.length (H.m.fs.flatMap pR)/\Own wr w.heap.size 3 1 (.slice a2 H.sl.length c2) H.sl.length (H.sl.map gB)/\nk wr w.heap.size (.slice ab H.sw.blocks.length cb) (.slice aq H.sw.queue.length cq) H.sw/\nk wr w.heap.size (.slice db H.dk.blocks.length eb) (.slice dq H.dk.queue.length eq) H.dk /\
  rz wr w.heap.size (.slice as_ ps.length cs) ps/\Own wr w.heap.size 122 3 (.slice a6 H.ca.length c6) H.ca.length (H.ca.flatMap iQ)/\Own wr w.heap.size 76 10 (.slice av L.length cv) L.length (L.flatMap tQ)/\(∀p∈L,wN wr w.heap.size p p.sp/\Gi p.tb)/\Hid (L.map PS.sp=(H.sp.take q).map PS.sp)) (λ_ i _=>H.sp.length-(intOf i).toNat)
 case atStart=>exact⟨0,[],none,0,bq _,rfl,rfl,ht,bxG,rx10,p1,p2,p3,p4,p5,p6,kW,λp S=>(by simp at S),ae rfl⟩
 case round=>
  clear ht bxG rx10 p1 p2 p3 p4 p5 p6 kW;obtain⟨q,L,av,cv,hq,rfl,rfl,hv,bx,rx,p1,p2,p3,p4,p5,p6,J,hL,kb⟩:=hrel;have gv:L.length<=q:=by have:=congrArg List.length kb.out;rw[dV,dV,iO]at this;omega
  by_cases hql2:q<H.sp.length
  .obtain⟨bs,os,P,k8,hP,kR⟩:=rG (h.below hv).sp.rd q hql2;have hr:=rM (h.below hv) hP;have k9:=bS hP;obtain⟨gt,kD⟩:=hz.spz k9;have k2:(q:Int)<(H.sp.length:Int):=by omega
   have kT:Hid (L.map PS.sp++[P.sp]=(H.sp.take (q+1)).map PS.sp):=ae (by rw[take_at hP,jJ,kb.out];rfl);rw[k8];have kj:(yX P).all (·.oneCell')=true:=by rw[<-mO,fA];exact hr.one
   go_wp2_with (first | (refine ay _ _ rfl bs (os+q*10) rfl rfl _ kR _ underlying76 rfl space_size ?_) | (refine aK rfl _ _ _ rfl (yX P) rfl rfl rfl space_size kj ?_))
   intro C l fx;have hc:=ag hv l;have d:=hr.below l;have R:=bx.ext l;have M:=rx.ext l;have q1:=p1.below l;have q2:=p2.below l;have q3:=p3.below l;have q4:=p4.below l;have q5:=p5.below l;have q6:=p6.below l;have hO:=J.below l;have hm:∀p∈L,wN C w.heap.size p p.sp/\Gi p.tb:=λp S=>⟨(hL p S).1.below l,(hL p S).2⟩;have ky:=ae hc.size;clear hv hr bx rx p1 p2 p3 p4 p5 p6 J hL l kR kj hP;go_upto_region 8 with(fail);refine VT 0 3 (.slice av L.length cv) (by kernel_rfl) (by kernel_rfl) rfl λops0 hM => ?_;simp only[freedL,Cy]at hM;subst hM;refine Im 11 12 [] [mZ (.slice av L.length cv),mZ (.pointer (some ⟨wr.heap.size,0,none⟩)),mZ (.bool P.lv),mZ (.pointer (some ⟨wr.heap.size,1,none⟩)),mZ (.slice P.aa P.ar.length P.ac),(nA C.heap.size 94 7 P.ar.length (P.ar.flatMap mX)),mZ (.pointer (some ⟨wr.heap.size,2,none⟩)),mZ (.agg (nT P.ts)),(Ke C.heap.size P.tb),(Xd C.heap.size P.sp),(XP C.heap.size P.sp)] (by kernel_rfl) (by kernel_rfl) (by kernel_rfl) (by kernel_rfl) (by kernel_rfl) (by decide) (Nat.le_of_ble_eq_true (by kernel_rfl)) _ rfl (by kernel_rfl) (ah ?_ (ah ?_ (ah ?_ (ah ?_ (ah ?_ (ah ?_ (ah ?_ (ah ?_ (ah ?_ (ah ?_ (ah ?_ (aI)))))))))))) (aI) rfl ?_
   .refine aQ rfl ?_;intro ρ y W D E A F;refine ak (.slice av L.length cv) (aj rfl) (run_move (.inl rfl) (E (.const _) trivial)) rfl
   .refine aQ rfl ?_;intro ρ y W D E A F;have E5:ρ (.tmp 5) = .pointer (some ⟨wr.heap.size,0,none⟩):=(E (.tmp 5) rfl).trans rfl;refine ak (.pointer (some ⟨wr.heap.size,0,none⟩)) (aj rfl) (by simp[execOp,go_sem,E5]) rfl
   .refine aQ rfl ?_;intro ρ y W D E A F;have gl:=D 38 1 rfl;have h1:y 1=_:=F 1 rfl;refine ak (.bool P.lv) (aj rfl) (by simp[execOp,go_sem,gl,h1,(fx.ext A).cell,yX]) rfl
   .refine aQ rfl ?_;intro ρ y W D E A F;have E5:ρ (.tmp 5) = .pointer (some ⟨wr.heap.size,0,none⟩):=(E (.tmp 5) rfl).trans rfl;refine ak (.pointer (some ⟨wr.heap.size,1,none⟩)) (aj rfl) (by simp[execOp,go_sem,E5]) rfl
   .refine aQ rfl ?_;intro ρ y W D E A F;have gj:=D 40 3 rfl;have h3:y 3=_:=F 3 rfl;refine ak (.slice P.aa P.ar.length P.ac) (aj rfl) (by simp[execOp,go_sem,gj,h3,(fx.ext A).cell,yX]) rfl
   .refine aQ rfl ?_;intro ρ y W D E A F;have gi:=D 41 4 rfl;have h4:y 4=_:=F 4 rfl;have I:=eF0 E λ_=>trivial;refine aO _ _ (aj rfl) (aS rfl (I _) func62 (by kernel_rfl) (by kernel_rfl) (by simp only[bW,bQ,aZ,gi,h4,I];rfl)) ?_;have hA:=(d.below A).ars;refine(LJ P.ar P.aa P.ac W hA.le hA.nl hA.rd (by omega)).mono ?_;rintro e w1 ⟨u,rfl,J,s⟩;exact⟨u,rfl,s,J.mono A.size⟩
   .refine aQ rfl ?_;intro ρ y W D E A F;have E5:ρ (.tmp 5) = .pointer (some ⟨wr.heap.size,0,none⟩):=(E (.tmp 5) rfl).trans rfl;refine ak (.pointer (some ⟨wr.heap.size,2,none⟩)) (aj rfl) (by simp[execOp,go_sem,E5]) rfl
   .refine aQ rfl ?_;intro ρ y W D E A F;have gg:=D 43 6 rfl;have h6:y 6=_:=F 6 rfl;refine ak (.agg (nT P.ts)) (aj rfl) (bH rfl (gg.trans h6) (bF (fx.ext A) 2 8) underlying74 tab_agg tab_size) rfl
   .refine aQ rfl ?_;intro ρ y W D E A F;have gf:=D 44 7 rfl;have h7:y 7=_:=F 7 rfl;have I:=eF0 E λ_=>trivial;refine aO _ _ (aj rfl) (aS rfl (I _) func63 (by kernel_rfl) (by kernel_rfl) (by simp only[bW,bQ,aZ,gf,h7,I];rfl)) ?_;refine(Lb P.tb (nT P.ts) W (d.below A).tb kD).mono ?_;rintro e w1 ⟨u,rfl,J,s⟩;exact⟨_,rfl,s,u,rfl,J.mono A.size⟩
   .refine aQ rfl ?_;intro ρ y W D E A F;have gk:=D 39 2 rfl;have h2:y 2=_:=F 2 rfl;have gh:=D 42 5 rfl;have h5:((nA C.heap.size 94 7 P.ar.length (P.ar.flatMap mX))).r (y 5) W:=F 5 rfl;have gd:=D 45 8 rfl;have h8:((Ke C.heap.size P.tb)).r (y 8) W:=F 8 rfl;obtain⟨x5,c5,e5,_⟩:=Own.rd h5;obtain⟨cs8,e8,kV⟩:=h8;obtain⟨v8,rfl⟩:=TW kV.sz;have ga:Own W C.heap.size 94 7 (.slice x5 P.ar.length c5) P.ar.length (P.ar.flatMap mX):=by rw[<-e5];exact h5
    refine ak (.agg (yX ⟨P.lv,x5,c5,P.ar,v8,P.tb⟩)) (aj rfl) (by simp[execOp,go_sem,gk.trans h2,gh,e5,gd,e8,nT,yX]) ?_;exact⟨⟨P.lv,x5,c5,P.ar,v8,P.tb⟩,rfl,rfl,ga,kV⟩
   .refine aQ rfl ?_;intro ρ y W D E A F;have gc:=D 46 9 rfl;have h9:((Xd C.heap.size P.sp)).r (y 9) W:=F 9 rfl;obtain⟨p9,e9,k7⟩:=h9;refine jh (.slice (some ⟨W.heap.size,0,none⟩) 1 1) (aj rfl) (by simp[execOp,go_sem,gc,e9,yX]) ((Below.refl _ _).alloc (az _) (.cells (yX p9) 76)) ?_;exact⟨_,p9,rfl,eB.new _ _ _,k7.below ((Below.refl _ _).alloc (az _) _)⟩
   intro ρ y WA o J D E hV j n;cases J;have kr:y 0=_:=n 0 (by decide);have kK:y 1=_:=n 1 (by decide);have hF:y 2=_:=n 2 (by decide);have kI:y 3=_:=n 3 (by decide);have kH:y 4=_:=n 4 (by decide);have hH:((nA C.heap.size 94 7 P.ar.length (P.ar.flatMap mX))).r (y 5) WA:=n 5 (by decide);have kG:y 6=_:=n 6 (by decide);have kF:y 7=_:=n 7 (by decide);have kE:((Ke C.heap.size P.tb)).r (y 8) WA:=n 8 (by decide);have gu:((Xd C.heap.size P.sp)).r (y 9) WA:=n 9 (by decide);have kJ:((XP C.heap.size P.sp)).r (y 10) WA:=n 10 (by decide);have kY:=D 37 0 rfl;rw[kr]at kY;have gb:=D 47 10 rfl;have EC:∀v,ρ (.const v)=v:=λv=>E (.const v) trivial;have I:=eF0 E λ_=>trivial;obtain⟨g10,p10,e10,hJ,g⟩:=kJ;refine IR (aj rfl) (qB (.tmp 37) (.tmp 47) 43 rfl w.heap.size 76 _ 10 224 underlying43 space_info rfl (by decide) _ _ _ kY (hO.below j) _ 1 1 (tQ p10) (gb.trans e10) (λe=>by cases e) (az _) rfl hJ (TM g) (by unfold maxLen;omega) (by omega) (bi ky.out j.size)) ?_;rintro v2 w13 ⟨hB,c,hS⟩;clear n D E hV;simp only[lay,Nat.reduceAdd,Nat.reduceLT,Nat.reduceEqDiff,reduceIte,decide_true,decide_false,if_true,uU,if_false,Ak,qD,uf,yx,AA,xY,kr,kK,hF,kI,kH,kG,kF];clear kr kK hF kI kH kG kF;have t:=hO.below j;have hT:=ag hc j;have kA:Below w.heap.size w w13:=hT.grown c hT.size (λk U=>t.ge k U);have hg : Own w13 w.heap.size 76 10 v2 (L++[p10]).length ((L++[p10]).flatMap tQ):=by rw[jk,fI];simpa using hB
   obtain⟨a13,c13,rfl,_⟩:=hg.rd;have r1:=jo t c (q1.below j) (by decide);have r2:=jo t c (q2.below j) (by decide);have r3:nk w13 w.heap.size _ _ H.sw:=⟨jo t c (q3.below j).b (by decide),jo t c (q3.below j).q (by decide)⟩;have r4:nk w13 w.heap.size _ _ H.dk:=⟨jo t c (q4.below j).b (by decide),jo t c (q4.below j).q (by decide)⟩;have r5:=VS t c (q5.below j);have r6:=jo t c (q6.below j) (by decide);have bx13:=Be t c (R.ext j) (by decide);have rx13:=Be t c (M.ext j) (by decide);have kv:∀p∈L++[p10],wN w13 w.heap.size p p.sp/\Gi p.tb:=λp S=>by
    rcases gH.1 S with S|S
    .have h1:=(hm p S).1.below j;exact⟨⟨rfl,jo t c h1.2.1 (by decide),Ef t c h1.2.2⟩,(hm p S).2⟩
    rw[bB.1 S];refine⟨⟨rfl,(jo t c g.2.1 (by decide)).mono ky.out,(Ef t c g.2.2).mono ky.out⟩,?_⟩;have e:p10.tb=P.tb:=congrArg Sp.tb g.1;rw[e];exact kD
   have kS:Hid ((L++[p10]).map PS.sp=(H.sp.take (q+1)).map PS.sp):=ae (by rw[jJ,<-kT.out,<-g.1];rfl);clear hO t hT j hB c hS g hJ fx d R M q1 q2 q3 q4 q5 q6 hm;go_wp2;go_roundw
   case rel=>exact⟨q+1,_,_,_,by omega,by go_num,rfl,kA,bx13,rx13,r1,r2,r3,r4,r5,r6,hg,kv,kS⟩
   case measure=>simp[intOf];omega
  have k2:¬(q:Int)<(H.sp.length:Int):=by omega
  rw[jD (by omega)]at kb
  go_wp2_with (refine aB rfl _ _ _ rfl w.heap.size 10 _ [.slice av L.length cv] rfl rfl rfl _ _ bx (by show 10+1<=11;decide) slsp_size (λu hu=>by cases bB.1 hu;rfl) ?_)
  intro C R d;have hc:=hv.grown d hv.size (λk U=>by cases U;exact az _);have M:=rx.grown d (λe=>by have:=aM e;omega);obtain⟨K,hK⟩:∃K:MH,Hid (K = { G with ap:=av,cp:=cv,sp:=L }):=⟨_,ae rfl⟩;have bxK:aG C w.heap.size (fF K) 45:=by rw[hK.out];exact R
  have kU:wV C w.heap.size K:=by rw[hK.out,hG.out];exact⟨ax p1 bx (by decide) d,ax p2 bx (by decide) d,p3.keep bx (by decide) (by decide) d,p4.keep bx (by decide) (by decide) d,p5.keep bx (by decide) (by decide) d,ax p6 bx (by decide) d,ax J bx (by decide) d,λp S=>⟨ax (hL p S).1.2.1 bx (by decide) d,(hL p S).1.2.2.keep bx (by decide) d⟩,k6⟩
  have k4:K.ma=H.ma:=by rw[hK.out,hG.out];unfold MH.ma;simp only;rw[kb.out,kQ]
  have k0:∀p∈K.fi,∀x,oB p.a=some x->oB K.asl≠some x:=by rw[hK.out,hG.out];exact k3.out
  clear hv bx rx d R p1 p2 p3 p4 p5 p6 J
  go_wp2_with (first | (refine ay _ _ rfl w.heap.size 0 rfl rfl (fF K).toList bxK.rd _ underlying45 rfl mach_size ?_) | (refine aA rfl _ _ _ rfl (w.heap.size+1) (fF K) rfl rfl _ _ M rfl mach_size (ku K) ?_))
  intro w12 rx12 kq;have kB:=hc.grown kq hc.size oG0;go_wp2;refine bodyPost_ret (v:=.agg (fF K)) (fG results25 _ _ (w.heap.size+1) _ _ _ rfl rx12 underlying45 rfl mach_size) rfl ?_;exact⟨K,rfl,kU.keep M (by decide) kq,k4,k0,kB⟩
theorem VY(H:MH)(p:Nat)(P:PS):MH.ma { H with sp:=H.sp.set p P }=Ua H.ma p P.sp:=by
 unfold Ua MH.ma;simp only[AV]
theorem Az(h:Below B w w1)(k:Below B w1 w2):Below B w w2:=
 ⟨k.os.trans h.os,k.tape.trans h.tape,k.output.trans h.output,bi h.size k.size,λi d=>(k.block i d).trans (h.block i d)⟩
theorem machT:45≠109/\45≠66/\45≠122/\45≠76:=by decide
def zB(H:MH)(p:Int):Prop:=p<0\/(H.sp.length:Int)<=p\/(dD H.ma p.toNat).lv=false
def pF(l:List Fr):Nat:=l.countP λf=>decide (f.r=0)
theorem VI(h:i<m.m.fs.length):aD m i=m.m.fs[i]:=by unfold aD;rw[aY,aF h];rfl
def Yw(H:MH)(p:Nat)(n:Int)(wr:Bool)(w:World)(r:Ending)(w' : World):Prop:=
 Below w.heap.size w w'/\((wZ H.ma p n wr≠0/\r = .returned (.tuple #[.agg (fF noH),.int .i64 0,.int .i64 (wZ H.ma p n wr)])) \/
  (wZ H.ma p n wr=0/\∃H' : MH,r = .returned (.tuple #[.agg (fF H'),.int .i64 (Lu H.ma p n wr),.int .i64 0])/\wV w' w.heap.size H'/\H'.ma=KD H.ma p n wr))
def Va(m:Ma):Prop:=∀p,∀a∈(dD m p).ar,a.fi<m.st.fs.length
theorem Va.at(h:Va m)(u:0<=il (dD m p).ar n):(kQ m p n).fi<m.st.fs.length:=by
 obtain⟨k,d,a,_⟩:=DD (q:=oD n) (l:=(dD m p).ar) u;have b : il (dD m p).ar n=k:=d;unfold kQ;rw[b,bu,aY,aF a];exact h p _ (eu a)
theorem RG(h:Rt m){w:Bool}(u:p<m.sp.length)(d:(dD m p).lv=true):wZ m p n w=if pQ m p n w≠0 then pQ m p n w
  else if 0<=(kQ m p n).fi/\copied m p n=false/\pq m.st (kQ m p n).fi ((kQ m p n).ba+n-(kQ m p n).fr)=true then 9
  else if(nK m p n w).2<0 then 10 else(nK m p n w).1.e:=by
 unfold wZ;rw[if_neg (by rw[Iw.2 h];simp),if_neg (by rw[bu,d];simp;omega),bu]
theorem XW(E:En)(W:World):(Instr.field 68 (.agg #[.int .i64 E.k,.int .i64 E.n,.bool E.w]) 2).run Tryz.prog W = .ok (.bool E.w) W:=by
 simp[Instr.field,go_sem];rfl
theorem TF(H:MH)(p:Nat)(n:Int)(wr:Bool)(w:World)(h:FK w H)(hR:Rt H.ma)(hC:Co H.ma)(hF:Va H.ma)(hp:p<H.sp.length)(hv:(dD H.ma p).lv=true) :
  Calls Tryz.prog 19 #[.agg (fF H),.int .i64 p,.int .i64 n,.bool wr] w (Yw H p n wr w):=by
 have kW:p<H.ma.sp.length:=by rw[tV];exact hp
 have hu:=ae (RG (n:=n) (w:=wr) hR kW hv);have g0:=ae hF;have gP:=ae hv;clear hF hv;have o:=ae hR;have gc:=ae hC;have ge:=ae (vX hR);clear hR hC;go_enter func19,ntmps19;go_upto_region 1 with(fail);refine uT (λW=>Code.wp _ _ _ _ W) λw1 kz bx1 rx1 gS => ?_;have bx1:aG w1 w.heap.size (fF H) 45:=bx1;have rx1:aG w1 (w.heap.size+1) (fF noH) 45:=rx1;have G:=h.below kz;clear h
 go_wp2_with (refine ay _ _ rfl w.heap.size 0 rfl rfl _ bx1.rd _ underlying45 rfl machine_size ?_)
 refine(Ct H _ G (Iw.2 o.out)).mono ?_;rintro r w2 ⟨rfl,ka⟩;have h2:=G.below ka;have bx2:=bx1.ext ka;have rx2:=rx1.ext ka;have ko:=ag kz ka;clear G bx1 rx1 kz ka gS;obtain⟨Q,hQ⟩:∃Q,H.sp[p]?=some Q:=⟨_,aF hp⟩;have kV:=ae (pV hQ);have g6:(p:Int)<(H.sp.length:Int):=by omega
 have g8:decide ((p:Int)<0)=false:=decide_eq_false (by omega);have g7:decide ((H.sp.length:Int)<=(p:Int))=false:=decide_eq_false (by omega);have L:=bx2.cell;unfold fF at L;obtain⟨gs,os,Q',ks,kt,ha⟩:=rG h2.sp.rd p hp;rw[hQ]at kt;cases kt;rw[ks]at L;have gW:w2.cell? ⟨gs,os+p*10,none⟩=some (.bool true):=by
  obtain⟨b',o',e',kx⟩:=ha 0 _ rfl;cases e';have:Q.lv=true:=by have:=gP.out;rw[kV.out]at this;exact this
  rw[this]at kx;exact kx
 go_wp2_with (refine ay _ _ rfl w.heap.size 0 rfl rfl _ bx2.rd _ underlying45 rfl machine_size ?_)
 refine(IZ H _ h2 ge.out).mono ?_;rintro r w3 ⟨C,rfl,gn,hN,_,hJ⟩;have hr:=ae hN;have gO:Hid (Wu C.ma):=ae (by rw[hN];exact ge.out);have rx3:=rx2.ext hJ;have bx3:=bx2.ext hJ;have h3:=h2.below hJ;have kn:=ag ko hJ;have gm:p<C.sp.length:=by rw[Vi (show C.ma.sp.length=H.ma.sp.length by rw[hN])];exact hp
 clear bx2 rx2 h2 hN L gW ha ks;unfold fF;go_upto_region 7 with(fail);refine iG (λW=>Code.wp _ _ _ _ W) λw4 h9 kx4 gR => ?_;have k4:lH w4 w.heap.size w3.heap.size C 0:=⟨kx4,kn.size,(gn.mono ko.size).below h9,λq hq=>(Wu.spz (H:=C) gO.out hq).2⟩;have rx4:=rx3.ext h9;have bx4:=bx3.ext h9;have h4:=h3.below h9;have kK:=ag kn h9;clear hJ h9 gn ko kx4 gR rx3 bx3 h3 kn;generalize w3.heap.size=b at k4
 go_wp2_with fail
 refine(TG C 0 n p wr _ b _ k4 gm).mono ?_;rintro r w5 ⟨rfl,hZ⟩;rw[hr.out];have k5:=k4.below hZ;have rx5:=rx4.ext hZ;have bx5:=bx4.ext hZ;have h5:=h4.below hZ;have kJ:=ag kK hZ;clear k4 rx4 bx4 h4 hZ kK
 go_wp2_with (refine aK rfl _ _ _ rfl (ky (Gj H.ma p n wr)) rfl rfl rfl kP (xN _) ?_)
 intro w6 hY ax6;have k6:=k5.below hY;have rx6:=rx5.ext hY;have bx6:=bx5.ext hY;have h6:=h5.below hY;have hV:=ag kJ hY;clear k5 rx5 bx5 h5 hY kJ;generalize w5.heap.size=ga at *
 by_cases h0:pQ H.ma p n wr≠0
 .have hl:Hid (wZ H.ma p n wr=pQ H.ma p n wr):=ae (by rw[hu.out];exact if_pos h0);generalize hE:pQ H.ma p n wr=E at *
  clear k6 bx6 h6 ax6 hu
  go_wp2_with (refine aA rfl _ _ _ rfl (w.heap.size+1) (fF noH) rfl rfl _ _ rx6 rfl mach_size (ku noH) ?_)
  intro we kb a;have c:=hV.grown a hV.size oG0;go_wp2;refine bodyPost_ret (v:=.tuple #[.agg (fF noH),.int .i64 0,.int .i64 E]) (bZ results19 _ _ (w.heap.size+1) _ _ _ _ _ rfl rfl rfl kb underlying45 rfl mach_size) rfl ?_;exact⟨c,.inl ⟨by rw[hl.out];exact h0,by rw[hl.out]⟩⟩
 replace h0:=rf.1 h0;have gK:Gj H.ma p n wr=kQ H.ma p n:=by unfold Gj;rw[h0];exact if_neg (by simp)
 rw[gK]at ax6;rw[h0];have kg:0<=il (dD H.ma p).ar n:=by
  by_cases e:il (dD H.ma p).ar n<0
  .unfold pQ at h0;rw[if_pos e]at h0;cases h0
  .omega
 have hW:Hid (wZ H.ma p n wr=if 0<=(kQ H.ma p n).fi/\copied H.ma p n=false/\pq H.ma.st (kQ H.ma p n).fi ((kQ H.ma p n).ba+n-(kQ H.ma p n).fr)=true then 9 else if(nK H.ma p n wr).2<0 then 10 else(nK H.ma p n wr).1.e):=ae (by rw[hu.out,if_neg (by rw[h0];simp)]);obtain⟨g,hg⟩:∃g,eT H.ma p n=some g:=by
  have:=(yM _ _).1 kg;unfold eT;cases e:onA (dD H.ma p).ar n with
  | none=>rw[e]at this;simp at this
  | some g=>exact⟨g,rfl⟩
 have kw:=ae hg;have ki:=ae (g0.out.at kg);have kj:=ae (Tk o.out.pt p n);have gV:=ae (o.out.pt.pg hg);have gF:=ae (Bw hg);have gq:=ae ((JB (w:=wr) hg).1 h0);have hs:Hid (copied H.ma p n=(decide ((dK Q.tb n).k=2)||(decide ((dK Q.tb n).k=1)&&decide ((jv H.ma (dK Q.tb n).n).f<0)))):=ae (by unfold copied ent;rw[kV.out];rfl);clear gK h0 kg hg hu;have L:=bx6.cell;unfold fF at L;obtain⟨gs,os,Q',ks,kt,ha⟩:=rG h6.sp.rd p hp;rw[hQ]at kt;cases kt;rw[ks]at L;have kf:=rM h6 hQ
 go_wp2_with (refine ay _ _ rfl gs (os+p*10+2) rfl rfl _ (qG ha 2 8) _ underlying74 tab_agg tab_size ?_)
 refine(xk Q.tb (nT Q.ts) n _ kf.tb).mono ?_;rintro r w7 ⟨rfl,hI⟩;have a:Hid (ent H.ma p n=dK Q.tb n):=ae (by unfold ent;rw[kV.out];rfl);generalize hx:dK Q.tb n=x at *
 have k7:=k6.below hI;have rx7:=rx6.ext hI;have bx7:=bx6.ext hI;have ax7:=ax6.ext hI;have h7:=h6.below hI;have kI:=ag hV hI;clear k6 rx6 bx6 ax6 h6 hI hV L ha ks kf hx
 go_wp2_with (refine aK rfl _ _ _ rfl (jy x) rfl rfl rfl entry_size (by simp[jy,Value.oneCell']) ?_)
 intro w8 hH ex8;have k8:=k7.below hH;have rx8:=rx7.ext hH;have bx8:=bx7.ext hH;have ax8:=ax7.ext hH;have h8:=h7.below hH;have kH:=ag kI hH;clear k7 rx7 bx7 ax7 h7 hH kI;generalize w7.heap.size=gx at ex8;go_upto_region 11 with(fail)
 go_cut [16] (fun s16 wx=>s16 = .bool (copied H.ma p n)/\Below w8.heap.size w8 wx)
 case first=>
  have k0:=ex8.cell;unfold jy at k0
  by_cases c2:x.k=2
  .have hG:Hid (copied H.ma p n=true):=ae (by rw[hs.out,decide_eq_true c2];rfl);rw[c2]at k0;go_wp2;go_meet
   case rel=>exact⟨by rw[hG.out],Below.refl _ _⟩
  by_cases O:x.k=1
  .obtain⟨f,Z,hf,_⟩:=gM o.out (show(ent H.ma p n).k=1 by rw[a.out];exact O);rw[a.out]at Z;obtain⟨gf,of,hz,gT⟩:=kE fQ (by decide) h8.fr.rd f (show f<H.m.fs.length from hf);have qa:w8.cell? ⟨gf,of+f*13+11,none⟩=some (.int .i64 (H.m.fs[f]'hf).f):=by obtain⟨b',o',e',kx⟩:=gT 11 _ rfl;cases e';exact kx
   have gu:Hid (jv H.ma x.n=H.m.fs[f]'hf):=ae (by rw[Z];exact VI (m:=H.ma) hf);have gv:(f:Int)<(H.m.fs.length:Int):=by have:f<H.m.fs.length:=hf;omega
   generalize H.m.fs[f]'hf=X at *
   have L:=bx8.cell;unfold fF at L;rw[hz]at L;clear hz;rw[O,Z]at k0
   by_cases c3:X.f<0
   .have hG:Hid (copied H.ma p n=true):=ae (by rw[hs.out,gu.out,decide_eq_true O,decide_eq_true c3,decide_eq_false c2];rfl);go_wp2;go_meet
    case rel=>exact⟨by rw[hG.out],Below.refl _ _⟩
   have hG:Hid (copied H.ma p n=false):=ae (by rw[hs.out,gu.out,decide_eq_true O,decide_eq_false c3,decide_eq_false c2];rfl);go_wp2;go_meet
   case rel=>exact⟨by rw[hG.out],Below.refl _ _⟩
  have hG:Hid (copied H.ma p n=false):=ae (by rw[hs.out,decide_eq_false O,decide_eq_false c2];rfl);have ka:(x.k==2)=false:=by simp[c2]
  have kz:(x.k==1)=false:=by simp[O]
  go_wp2;go_meet
  case rel=>exact⟨by rw[hG.out],Below.refl _ _⟩
 case rest=>
  obtain⟨rfl,kr⟩:=hcut;have k9:=k8.below kr;have rx9:=rx8.ext kr;have R:=ax8.ext kr;have kG:=ag kH kr;clear k8 rx8 bx8 ax8 h8 kr kH ex8 hs;obtain⟨A,hA⟩:∃A,Hid (A=kQ H.ma p n):=⟨_,ae rfl⟩;rw[<-hA.out]at R hW ki kj gF;have gw:=kj.out;have gp:=gV.out;unfold vk at gw;have gh:IntKind.i64.wrap (A.ba+n)=A.ba+n:=bI _ (by omega);have gg:IntKind.i64.wrap (A.ba+n-A.fr)=A.ba+n-A.fr:=bI _ (by omega);clear gw gp;obtain⟨cp,hs⟩:∃cp,Hid (cp=copied H.ma p n):=⟨_,ae rfl⟩;rw[<-hs.out]at hW ⊢;obtain⟨hM,z⟩:∃hM:Bool,Hid (hM=(decide (0<=A.fi)&&!cp&&pq H.ma.st A.fi (A.ba+n-A.fr))):=⟨_,ae rfl⟩;go_upto_region 12 with(fail)
  go_cut [109] (fun s109 wx=>s109 = .bool hM/\Below wc.heap.size wc wx)
  case first=>
   have hX:=R.cell;unfold ky at hX
   by_cases O:0<=A.fi
   .cases cp with
    | true=>
     have hD:decide (0<=A.fi)=true:=decide_eq_true O;have hE:Hid (hM=false):=ae (by rw[z.out,hD];rfl);go_quiet (fail);go_wp2;go_meet
     case rel=>exact⟨by rw[hE.out],below_drewN (Below.refl _ _) _⟩
    | false=>
     have kU:Hid (cK C.fi C.ct=H.ma.st):=ae (congrArg Ma.st hr.out);have hE:Hid (hM=pq (cK C.fi C.ct) A.fi (A.ba+n-A.fr)):=ae (by rw[z.out,kU.out,decide_eq_true O];rfl);have gv:A.fi<(C.fi.length:Int):=by have G:=ki.out;rw[<-kU.out]at G;have Z:(cK C.fi C.ct).fs.length=C.fi.length:=dV _;rw[Z]at G;exact G
     have gQ:(aN (cK C.fi C.ct) A.fi).n<=9223372036854775807:=by have G:=(vN o.out.pt.st (f:=A.fi) ⟨O,by have:=ki.out;omega⟩).2.1;rw[<-kU.out]at G;have h2:(aN (cK C.fi C.ct) A.fi).n<=96:=G;omega
     refine aV 24 [_,_,_,_,_,_,_,_,_,_,_,_,_,_,_,_,_,_,_,_,_,_,.v (.bool (pq (cK C.fi C.ct) A.fi (A.ba+n-A.fr))),.v (.bool (pq (cK C.fi C.ct) A.fi (A.ba+n-A.fr)))] (Gf ga 5 rfl rfl (Gl R (V:=.int .i64 A.fi) (by simp[ky]) rfl rfl rfl rfl (Gb (.bool true) (by simp[go_sem,O]) rfl rfl rfl rfl rfl (Gk rfl (Gk rfl (Gk rfl (Gk rfl (Gk rfl (Gk rfl (Gk rfl (Gf b 0 rfl rfl (Gf b 7 rfl rfl (Gr (.agg #[.slice C.ai C.fi.length C.ci,.int .i64 C.ct]) (λρ y W hb gY=>(bH rfl (aL rfl gY) (k9.below hb).rdS underlying41 rfl store_size)) rfl rfl (Gf ga 5 rfl rfl (Gl R (V:=.int .i64 A.fi) (by simp[ky]) rfl rfl rfl rfl (Gf ga 6 rfl rfl (Gl R (V:=.int .i64 A.ba) (by simp[ky]) rfl rfl rfl rfl (Gk rfl (Gb (.int .i64 (A.ba+n)) (by simp[go_sem,gh]) rfl rfl rfl rfl rfl (Gf ga 0 rfl rfl (Gl R (V:=.int .i64 A.fr) (by simp[ky]) rfl rfl rfl rfl (Gb (.int .i64 (A.ba+n-A.fr)) (by simp[go_sem,gg]) rfl rfl rfl rfl rfl (ah ?_ (Gk rfl (aI))))))))))))))))))))))))) (λ_=>rfl) rfl ?_
     .intro ρ y W hw hn hb hd;have g5:=hw 98 12 rfl;have g4:y 12=_:=hd 12 rfl;have gN:=hw 100 14 rfl;have g3:y 14=_:=hd 14 rfl;have gL:=hw 107 21 rfl;have g1:y 21=_:=hd 21 rfl;have EF:=eF0 hn λ_=>trivial;refine aO _ _ (bG 7 93 true true rfl rfl ((hw 93 7 rfl).trans (hd 7 rfl))) (aS rfl (EF _) func43 (by kernel_rfl) (by kernel_rfl) (by simp only[bW,bQ,aZ,g5,g4,gN,g3,gL,g1,EF];rfl)) ?_;refine(Ry C.fi C.ct A.fi (A.ba+n-A.fr) C.ai C.ci W (k9.below hb).ma.rd.st ⟨O,gv⟩ gQ).mono ?_;rintro r W3 ⟨rfl,hJ⟩;exact⟨_,rfl,hJ,rfl⟩
     intro y W10 gb _;go_wp2;go_meet
     case rel=>exact⟨by rw[hE.out],gb⟩
   have hD:decide (0<=A.fi)=false:=decide_eq_false O;have hE:Hid (hM=false):=ae (by rw[z.out,hD];rfl);go_quiet (fail);go_wp2;go_meet
   case rel=>exact⟨by rw[hE.out],below_drewN (Below.refl _ _) _⟩
  case rest=>
   obtain⟨rfl,hy⟩:=hcut;have k10:=k9.below hy;have rx10:=rx9.ext hy;have N:=R.ext hy;have hi:=ag kG hy;clear k9 rx9 R hy kG gh gg;cases hM with
   | true=>
    have hl:Hid (wZ H.ma p n wr=9):=ae (by have G:=z.out.symm;simp only[dW,decide_eq_true_eq,uy]at G;rw[hW.out,if_pos ⟨G.1.1,G.1.2,G.2⟩]);clear k10 N hW
    go_wp2_with (refine aA rfl _ _ _ rfl (w.heap.size+1) (fF noH) rfl rfl _ _ rx10 rfl mach_size (ku noH) ?_)
    intro we kb a;have c:=hi.grown a hi.size oG0;go_wp2;refine bodyPost_ret (v:=.tuple #[.agg (fF noH),.int .i64 0,.int .i64 9]) (bZ results19 _ _ (w.heap.size+1) _ _ _ _ _ rfl rfl rfl kb underlying45 rfl mach_size) rfl ?_;exact⟨c,.inl ⟨by rw[hl.out];decide,by rw[hl.out]⟩⟩
   | false=>
    have kY:Hid (¬(0<=A.fi/\cp=false/\pq H.ma.st A.fi (A.ba+n-A.fr)=true)):=ae (by rintro⟨G,h2,h3⟩;have h4:=z.out;rw[decide_eq_true G,h2,h3]at h4;cases h4);have gi:Hid (wZ H.ma p n wr=if(nK H.ma p n wr).2<0 then 10 else(nK H.ma p n wr).1.e):=ae (by rw[hW.out,if_neg kY.out]);have hO:Hid (0<=g.fi->(ent H.ma p n).k=0->qK H.ma.st g.fi g.pg):=ae (λG h2=>by
     obtain⟨a1,a2,a3,a4,a5,a6,a7⟩:=gF.out;refine zV o.out.pt.st G (o.out.pt.pg kw.out).1 (λh3 => ?_);have h4:cp=false:=by rw[hs.out];unfold copied;rw[h2];rfl
     rcases h3 with h3|h3
     .have:=ki.out;rw[a6]at this;omega
     .exact kY.out ⟨by rw[a6];exact G,h4,by rw[a6,a7 G];exact h3⟩)
    have k3:=KQ (k:=⟨H.ma,0⟩) o.out gc.out (p:=p) (n:=n) kW kw.out hO.out;obtain⟨gE,gD⟩:=Mx o.out gc.out (w:=wr) kW kw.out (λe=>gq.out.1 e) hO.out;have km:Hid (nK H.ma p n wr=if 0<=(gZ ⟨H.ma,0⟩ p n A).2/\wr=true/\(ent (gZ ⟨H.ma,0⟩ p n A).1.m p n).w=false then xQ (gZ ⟨H.ma,0⟩ p n A).1 p n (gZ ⟨H.ma,0⟩ p n A).2 A else gZ ⟨H.ma,0⟩ p n A):=ae (by rw[hA.out];rfl);simp only[show kQ (Kp.m ⟨H.ma,0⟩) p n=A from hA.out.symm]at k3;have i:=ae k3;have kN:=ae gE;have gC:=ae gD;have gG:Rt C.ma:=by rw[hr.out];exact o.out
    have gJ:Co C.ma:=by rw[hr.out];exact gc.out
    have gd:kQ C.ma p n=A:=by rw[hr.out];exact hA.out.symm
    have gt:eT C.ma p n=some g:=by rw[hr.out];exact kw.out
    have kC:0<=g.fi->(ent C.ma p n).k=0->qK C.ma.st g.fi g.pg:=by rw[hr.out];exact hO.out
    rw[<-gd]at N;clear k3 gE gD hW hO z kY ki kj
    go_wp2_with fail
    refine(NH C 0 n p g ga w.heap.size b _ k10 gG gJ N gm gt kC).mono ?_;rintro r w11 ⟨rfl,D,e11,k11,s11,U⟩;rw[gd]at N U ⊢;rw[hr.out]at U ⊢;have rx11:=s11.blk k10 rx10 machT;have ax11:=s11.blk k10 N areaT;have kq:=Az hi (s11.to k10 (az _));obtain⟨r1,gk⟩:∃r1,Hid (r1=gZ ⟨H.ma,0⟩ p n A):=⟨_,ae rfl⟩;rw[<-gk.out]at U km i ⊢;have gB:e11=0:=(congrArg Kp.e U).trans i.out.1;subst gB;have s:=ae (congrArg Kp.m U);have gl:=ae U;clear U s11 k10 rx10 N hi gG gJ gd gt kC gk;generalize hk2:r1.2=K at *
    obtain⟨hL,t⟩:∃hL:Bool,Hid (hL=(decide (0<=K)&&wr&&!(ent r1.1.m p n).w)):=⟨_,ae rfl⟩;go_upto_region 15 with(fail)
    go_cut [134] (fun s134 wx=>s134 = .bool hL/\Below w11.heap.size w11 wx)
    case first=>
     by_cases O:0<=K
     .have hD:decide (0<=K)=true:=decide_eq_true O;cases wr with
      | false=>
       have l:Hid (hL=false):=ae (by rw[t.out,ny];rfl);go_wp2;go_meet
       case rel=>exact⟨by rw[l.out],Below.refl _ _⟩
      | true=>
       have kc:p<D.sp.length:=by have Z:D.ma.sp.length=r1.1.m.sp.length:=congrArg (λm:Ma=>m.sp.length) s.out;rw[tV,i.out.2.vis.sk.len,tV]at Z;rw[Z];exact hp
       obtain⟨Q2,gH⟩:∃Q2,D.sp[p]?=some Q2:=⟨_,aF kc⟩;have gX:Hid (ent r1.1.m p n=dK Q2.tb n):=ae (by rw[<-s.out];show dK (dD D.ma p).tb n=_;rw[pV gH];rfl);obtain⟨g2,off2,kO,gj,kA,hP⟩:=k11.at gH;have L:=k11.blk.cell;unfold rD at L;rw[kO]at L;have gU:(p:Int)<(D.sp.length:Int):=by omega
       clear kO
       go_wp2_with (refine ay _ _ rfl g2 (off2+p*10+2) rfl rfl _ kA _ underlying74 tab_agg tab_size ?_)
       refine(xk Q2.tb (nT Q2.ts) n _ hP.tb).mono ?_;rintro r w12 ⟨rfl,j⟩;generalize dK Q2.tb n=y at *
       have g9:=XW y;have l:Hid (hL = !y.w):=ae (by rw[t.out,hD,gX.out];rfl);clear L gj kA hP;go_wp2;go_meet
       case rel=>exact⟨by rw[l.out],j⟩
     have hD:decide (0<=K)=false:=decide_eq_false O;have l:Hid (hL=false):=ae (by rw[t.out,hD];rfl);go_wp2;go_meet
     case rel=>exact⟨by rw[l.out],Below.refl _ _⟩
    case rest=>
     obtain⟨rfl,j⟩:=hcut;have Y:=k11.below j;have rx12:=rx11.ext j;have S:=ax11.ext j;have hh:=ag kq j;clear k11 rx11 ax11 j kq;go_upto_if 134 with(fail)
     go_cut [17] (fun s17 wx => ∃(I:MH),s17 = .int .i64 (nK H.ma p n wr).2/\lH wx w.heap.size b I 0/\aG wx (w.heap.size+1) (fF noH) 45/\aG wx ga (ky A) 94/\Below w.heap.size w wx/\Hid (I.ma=(nK H.ma p n wr).1.m))
     case first=>
      cases hL with
      | false=>
       have l:Hid (nK H.ma p n wr=r1):=ae (by rw[km.out,if_neg];rintro⟨G,h2,h3⟩;have h4:=t.out;rw[decide_eq_true G,h2,h3]at h4;cases h4);go_wp2;go_meet
       case rel=>exact⟨D,by rw[l.out,hk2],Y,rx12,S,hh,ae (by rw[l.out];exact s.out)⟩
      | true=>
       have kk:0<=K/\wr=true/\(ent r1.1.m p n).w=false:=by have G:=t.out.symm;simp only[dW,decide_eq_true_eq,uy]at G;exact⟨G.1.1,G.1.2,G.2⟩
       have l:Hid (nK H.ma p n wr=xQ r1.1 p n K A):=ae (by rw[km.out,if_pos kk]);obtain⟨y1,y2,_⟩:=i.out.2.yes kk.1;obtain⟨f,f1,hf,_⟩:=gM i.out.2.rt y1;have kv:K=(f:Int):=by rw[<-y2,f1]
       have kc:p<D.sp.length:=by have Z:D.ma.sp.length=r1.1.m.sp.length:=congrArg (λm:Ma=>m.sp.length) s.out;rw[tV,i.out.2.vis.sk.len,tV]at Z;rw[Z];exact hp
       have gz:f<D.m.fs.length:=by have Z:D.m.fs.length=r1.1.m.m.fs.length:=congrArg (λm:Ma=>m.m.fs.length) s.out;rw[Z];exact hf
       have hj:=vX i.out.2.rt;rw[<-s.out]at hj;have kR:D.sp.length<=1000/\D.ca.length<=1000/\D.m.fs.length<=1000:=⟨by have:=hj.sp.1;rwa [show(Kp.m ⟨D.ma,0⟩).sp.length=D.sp.length from tV D]at this,hj.ca,hj.fs⟩;clear kk hj y1 y2 f1 hf t;subst kv
       go_wp2_with fail
       refine(Rz D 0 n p f A ga w.heap.size b _ Y S kc gz kR.1 kR.2.1 kR.2.2).mono ?_;rintro r w13 ⟨rfl,H13,e13,k13,s13,q13⟩;rw[gl.out]at q13 ⊢;have rx13:=s13.blk Y rx12 machT;have ax13:=s13.blk Y S areaT;have k2:=Az hh (s13.to Y (az _));rw[<-l.out]at q13 ⊢;have gA:e13=0:=(congrArg Kp.e q13).trans kN.out;subst gA;have gr:=ae (congrArg Kp.m q13);clear q13 s13 Y rx12 S hh;go_wp2;go_meet
       case rel=>exact⟨H13,rfl,k13,rx13,ax13,k2,gr⟩
     case rest=>
      clear Y rx12 S hh;obtain⟨I,rfl,kX,rxX,axX,hT,kZ⟩:=hcut;generalize hK:(nK H.ma p n wr).2=K2
      by_cases O:K2<0
      .have hl:Hid (wZ H.ma p n wr=10):=ae (by rw[gi.out,hK,if_pos O]);clear kX axX
       go_wp2_with (refine aA rfl _ _ _ rfl (w.heap.size+1) (fF noH) rfl rfl _ _ rxX rfl mach_size (ku noH) ?_)
       intro we kb a;have c:=hT.grown a hT.size oG0;go_wp2;refine bodyPost_ret (v:=.tuple #[.agg (fF noH),.int .i64 0,.int .i64 10]) (bZ results19 _ _ (w.heap.size+1) _ _ _ _ _ rfl rfl rfl kb underlying45 rfl mach_size) rfl ?_;exact⟨c,.inl ⟨by rw[hl.out];decide,by rw[hl.out]⟩⟩
      have kT:Hid (wZ H.ma p n wr=0):=ae (by rw[gi.out,hK,if_neg O];exact kN.out);have hU:=gC.out.1 (by rw[hK];omega);obtain⟨F,f1,hf,_⟩:=gM hU.rt hU.k1;have kv:K2=(F:Int):=by rw[<-hK,<-hU.en,f1]
      have gy:F<I.m.fs.length:=by have Z:I.m.fs.length=(nK H.ma p n wr).1.m.m.fs.length:=congrArg (λm:Ma=>m.m.fs.length) kZ.out;rw[Z];exact hf
      have kS:Hid (Lu H.ma p n wr=(F:Int)):=ae (by rw[<-kv,<-hK];unfold Lu;rw[bu]);have hB:Hid (KD H.ma p n wr=(if(wr&&A.sh)=true then setFr (setFr I.ma F (lm (aD I.ma F))) F (uV (aD (setFr I.ma F (lm (aD I.ma F))) F) (aD (setFr I.ma F (lm (aD I.ma F))) F).p true)else setFr I.ma F (lm (aD I.ma F)))):=ae (by unfold KD Oy;simp only[bu];rw[hK,kv,bu,<-hA.out,kZ.out]);have gI:(F:Int)<(I.m.fs.length:Int):=by omega
      subst kv;clear hK hU f1 hf;obtain⟨gf,of,cur,hz,ht,kh,ha,hm⟩:=kX.frPut gy;have L:=kX.blk.cell;unfold rD at L;rw[hz]at L;clear hz ha
      go_wp2_with (refine aB rfl _ _ _ rfl gf (of+F*13+9) _ [.bool true] rfl rfl rfl _ _ ht (by simp;omega) vR (λu hu=>by cases bB.1 hu;rfl) ?_)
      intro w14 kM kF;obtain⟨J,s14⟩:=hm 9 1 [.bool true] (lm (aD I.ma F)) w14 rfl (by decide) rfl kM kF;have s14:=s14 _ _ (KS.refl _ _ _);have M:=s14.blk kX rxX machT;have ax14:=s14.blk kX axX areaT;have d:=Az hT (s14.to kX (az _));have kB:Hid (MH.ma { I with m:=⟨I.m.fs.set F (lm (aD I.ma F)),I.m.hand⟩ }=setFr I.ma F (lm (aD I.ma F))):=ae rfl;rw[<-kB.out]at hB;have hS:F<(I.m.fs.set F (lm (aD I.ma F))).length:=by rw[bL];exact gy
      clear L s14 kX rxX axX hT ht kh hm kM kF;generalize hH14:({ I with m:=⟨I.m.fs.set F (lm (aD I.ma F)),I.m.hand⟩ }:MH)=H14 at *
      have hS:F<H14.m.fs.length:=by rw[<-hH14];exact hS
      clear hH14 kB kZ;have hX:=ax14.cell;unfold ky at hX;cases wr with
      | false=>
       have kd:H14.ma=KD H.ma p n false:=by rw[hB.out];exact(if_neg (by simp)).symm
       have kl:=J.blk.cell;unfold rD at kl
       go_wp2_with (first | (refine ay _ _ rfl b 0 rfl rfl (fF H14).toList (bF J.blk 0 11) _ underlying45 rfl machine_size ?_) | (refine aA rfl _ _ _ rfl (w.heap.size+1) (fF H14) rfl rfl _ _ M rfl mach_size (ku _) ?_))
       intro we rxe a;have c:=d.grown a d.size oG0;have ke:=J.ma.keep M (by decide) a;go_wp2;refine bodyPost_ret (v:=.tuple #[.agg (fF H14),.int .i64 F,.int .i64 0]) (bZ results19 _ _ (w.heap.size+1) _ _ _ _ _ rfl rfl rfl rxe underlying45 rfl mach_size) rfl ?_;exact⟨c,.inr ⟨kT.out,_,by rw[kS.out],ke,kd⟩⟩
      | true=>
       cases hsh:A.sh with
       | false=>
        rw[hsh]at hX hB;have kd:H14.ma=KD H.ma p n true:=by rw[hB.out];exact(if_neg (by simp)).symm
        have kl:=J.blk.cell;unfold rD at kl
        go_wp2_with (first | (refine ay _ _ rfl b 0 rfl rfl (fF H14).toList (bF J.blk 0 11) _ underlying45 rfl machine_size ?_) | (refine aA rfl _ _ _ rfl (w.heap.size+1) (fF H14) rfl rfl _ _ M rfl mach_size (ku _) ?_))
        intro we rxe a;have c:=d.grown a d.size oG0;have ke:=J.ma.keep M (by decide) a;go_wp2;refine bodyPost_ret (v:=.tuple #[.agg (fF H14),.int .i64 F,.int .i64 0]) (bZ results19 _ _ (w.heap.size+1) _ _ _ _ _ rfl rfl rfl rxe underlying45 rfl mach_size) rfl ?_;exact⟨c,.inr ⟨kT.out,_,by rw[kS.out],ke,kd⟩⟩
       | true=>
        rw[hsh]at hX hB;obtain⟨gf,of,cur,hz,ht,kh,ha,hm⟩:=J.frPut hS;have L:=J.blk.cell;unfold rD at L;rw[hz]at L;have gI:(F:Int)<(H14.m.fs.length:Int):=by omega
        clear hz ha
        go_wp2_with (refine aB rfl _ _ _ rfl gf (of+F*13+10) _ [.bool true] rfl rfl rfl _ _ ht (by simp;omega) vR (λu hu=>by cases bB.1 hu;rfl) ?_)
        intro w15 kL kD;obtain⟨k15,s15⟩:=hm 10 1 [.bool true] (uV (aD H14.ma F) (aD H14.ma F).p true) w15 rfl (by decide) rfl kL kD;have s15:=s15 _ _ (KS.refl _ _ _);have rx15:=s15.blk J M machT;have kp:=Az d (s15.to J (az _));have kd:Hid (MH.ma { H14 with m:=⟨H14.m.fs.set F (uV (aD H14.ma F) (aD H14.ma F).p true),H14.m.hand⟩ }=KD H.ma p n true):=ae (by rw[hB.out];exact(if_pos (by simp)).symm);clear L s15 J M ax14 d ht kh hm kL kD hX hB hS gI;generalize ({ H14 with m:=⟨H14.m.fs.set F (uV (aD H14.ma F) (aD H14.ma F).p true),H14.m.hand⟩ }:MH)=H15 at *
        have kl:=k15.blk.cell;unfold rD at kl
        go_wp2_with (first | (refine ay _ _ rfl b 0 rfl rfl (fF H15).toList (bF k15.blk 0 11) _ underlying45 rfl machine_size ?_) | (refine aA rfl _ _ _ rfl (w.heap.size+1) (fF H15) rfl rfl _ _ rx15 rfl mach_size (ku _) ?_))
        intro we rxe a;have c:=kp.grown a kp.size oG0;have ke:=k15.ma.keep rx15 (by decide) a;go_wp2;refine bodyPost_ret (v:=.tuple #[.agg (fF H15),.int .i64 F,.int .i64 0]) (bZ results19 _ _ (w.heap.size+1) _ _ _ _ _ rfl rfl rfl rxe underlying45 rfl mach_size) rfl ?_;exact⟨c,.inr ⟨kT.out,_,by rw[kS.out],ke,kd.out⟩⟩
def vO(m:Ma)(p:Nat)(n:Int):Option Page:=
 if(ent m p n).k=1 then(if(jv m (ent m p n).n).f<0 then some (jv m (ent m p n).n).p else none)
 else if(ent m p n).k=2 then some (dA m.sw (ent m p n).n)else none
theorem VO(h:Rt m){g:Pg}(z:eT m p n=some g):fP m p n=match vO m p n with
  | some P=>(P,true,0)
  | none=>if g.fi<0 then(zPg,false,0)else if(m.st.fs.length:Int)<=g.fi\/pq m.st g.fi g.pg=true then(zPg,false,9)else(aW m g.fi g.pg,false,0):=by
 rw[ji z];unfold vH vO
 by_cases k1:(ent m p n).k=1
 .rw[if_pos k1,if_pos k1];obtain⟨f,F,D,G,I,o,E,e,a⟩:=gM h k1;rw[z]at e;cases e;rw[F,vg]
  by_cases y:(aD m f).f<0
  .rw[if_pos y,decide_eq_true y]
  rw[if_neg y,decide_eq_false y];obtain⟨c,i,l⟩:=h.fc f D (by omega);have b:=h.ca.fr c i;have d:=h.ca.file c i;rw[l,bu]at b;obtain⟨C,A⟩:=a.1 (by omega);rw[<-b.2.1,<-b.2.2,C,A]at d;have j:aW m g.fi g.pg=(aD m f).p:=by rw[<-C,<-A,b.2.1,b.2.2,ic h.ca i,l,bu]
  simp only;rw[if_neg (by have:=d.1;omega),if_neg (nU h.pt.st d),j]
 rw[if_neg k1,if_neg k1]
 by_cases u:(ent m p n).k=2
 .rw[if_pos u,if_pos u];obtain⟨E,e,a⟩:=h.en p n (by rw[u];decide);have J:=(a.sw u).1;have h2:=(bD _).1 (mE h.pt p n);simp only[JL,true_and];rw[jG];have:=h.pt.swl;exact⟨h.pt.sw,by omega,by omega⟩
 .rw[if_neg u,if_neg u]
instance (s:St) (f i:Int):Decidable (qK s f i):=by unfold qK;infer_instance
def xC(m:Ma)(p:Nat)(l:List Ar):Ma:={ m with sp:=m.sp.set p { dD m p with ar:=l } }
theorem JE(h:(ent m p n).k=0):vO m p n=none:=by
 unfold vO;rw[if_neg (by omega),if_neg (by omega)]
def YE(m:Ma):Prop:=∀p n g,eT m p n=some g->g.fi<m.st.fs.length
structure Tz (m:Ma):Prop where
 rt:Rt m
 co:Co m
 fi:YE m
def putB(b:List UInt8)(k:Nat)(d:List UInt8):List UInt8:=(List.range b.length).map λj=>if k<=j/\j<k+d.length then d.getD (j-k) 0 else b.getD j 0
def wH(g:Pg)(wr:Bool):Bool:=if wr=true then g.wr else g.rd
theorem yU{l:List Ar}(d:p<m.sp.length)(q:Nat):dD (xC m p l) q=if q=p then{ dD m p with ar:=l }else dD m q:=by
 unfold xC;show(m.sp.set p _).getD q zSp=_;rw[aY,oq]
 by_cases e:q=p
 .subst e;rw[if_pos rfl,if_pos d,if_pos rfl];rfl
 .rw[if_neg (pu e),if_neg e];unfold dD;rw[aY]
theorem Qp{l:List Ar}(d:p<m.sp.length)(q:Nat)(n:Int):ent (xC m p l) q n=ent m q n:=by
 unfold ent;rw[yU d]
 by_cases e:q=p
 .rw[if_pos e,e]
 .rw[if_neg e]
theorem BP{l:List Ar}(d:p<m.sp.length)(q:Nat)(n:Int):eT (xC m p l) q n=if q=p then onA l n else eT m q n:=by
 unfold eT;rw[yU d]
 by_cases e:q=p
 .rw[if_pos e,if_pos e]
 .rw[if_neg e,if_neg e]
theorem Wo(z:m'.sp.length=m.sp.length)(y:∀p,(dD m' p).tb=(dD m p).tb)(kd i:Int):bO m' kd i=bO m kd i:=by
 have e:m'.sp.map Sp.tb=m.sp.map Sp.tb:=by
  apply qZ
  .simpa using z
  intro j d h2;simp only[dV]at d h2;simp only[wR];have u:=zG (m:=m') (p:=j) d;have h:=zG (m:=m) (p:=j) h2;rw[aF d]at u;rw[aF h2]at h;rw[aM u,aM h];exact y j
 have k:∀l:List Sp,(l.map λs:Sp=>(dE s.tb).countP (pW kd i))=(l.map Sp.tb).map λt=>(dE t).countP (pW kd i):=λl=>by rw[List.map_map];rfl
 unfold bO;rw[k,k,e]
theorem RF(h:Rt m)(D:Co m)(z:p<m.sp.length)(F:(dD m p).lv=true){l:List Ar}(G:(bP l).1=0)
 (C:∀n,(ent m p n).k≠0->∃g,onA l n=some g/\Pn m g (ent m p n)):Rt (xC m p l)/\Co (xC m p l):=by
 have c:=λq=>yU (l:=l) z q;have a:=λq n=>Qp (l:=l) z q n;have d:Pt (xC m p l):={ h.pt with
  spl:=by show(m.sp.set p _).length<=4;rw[bL];exact h.pt.spl
  ar:=λs u=>by
   rcases lU u with u|rfl
   .exact h.pt.ar s u
   .exact G
  tb:=λs u=>by
   rcases lU u with u|rfl
   .exact h.pt.tb s u
   .exact h.pt.tbN p }
 have b:∀kd i,bO (xC m p l) kd i=bO m kd i:=Wo (by show(m.sp.set p _).length=_;rw[bL]) λq=>by
  rw[c]
  by_cases e:q=p
  .rw[if_pos e,e]
  .rw[if_neg e]
 refine⟨⟨d,h.trim,λq y => ?_,⟨h.ca.file,h.ca.lt,h.ca.fr,h.ca.srt⟩,λq j A => ?_,λi I=>by rw[b];exact h.cf i I,h.fc,λs u=>by rw[b];exact h.cs s u⟩,⟨D.tail,D.clean,D.anon⟩⟩
 .rw[c]at y ⊢
  by_cases e:q=p
  .rw[if_pos e]at y;have:(dD m p).lv=false:=y;rw[F]at this;cases this
  rw[if_neg e]at y ⊢;exact⟨(h.live q y).1,λn=>by rw[a];exact(h.live q y).2 n⟩
 rw[a]at A ⊢;rw[BP z]
 by_cases e:q=p
 .rw[if_pos e];subst e;obtain⟨g,E,h2⟩:=C j A;exact⟨g,E,h2.sw,h2.lt,h2.fr⟩
 rw[if_neg e];obtain⟨g,E,h2⟩:=h.en q j A;exact⟨g,E,h2.sw,h2.lt,h2.fr⟩
theorem MI :copied m p n=false↔vO m p n=none:=by
 unfold copied vO
 by_cases k1:(ent m p n).k=1
 .have d:¬(ent m p n).k=2:=by omega
  rw[if_pos k1]
  by_cases h:(jv m (ent m p n).n).f<0
  .rw[if_pos h];simp[k1,h]
  .rw[if_neg h];simp[k1,h,d]
 rw[if_neg k1]
 by_cases d:(ent m p n).k=2
 .rw[if_pos d];simp[d]
 .rw[if_neg d];simp[k1,d]
theorem UR(F:Tz m){w:Bool}(K:p<m.sp.length)(I:(dD m p).lv=true) :
  (eT m p n=none/\wZ m p n w=5)\/∃g,eT m p n=some g/\(wH g w=false/\wZ m p n w=8\/wH g w=true /\
   ((0<=g.fi/\vO m p n=none/\¬qK m.st g.fi g.pg)/\wZ m p n w=9\/¬(0<=g.fi/\vO m p n=none/\¬qK m.st g.fi g.pg) /\
    (wZ m p n w=10/\(nK m p n w).2<0\/wZ m p n w=0/\0<=Lu m p n w/\Vt m (KD m p n w) p n w g (Lu m p n w)))):=by
 have A:=F.rt;have O:=F.co;have J:wZ m p n w=if pQ m p n w≠0 then pQ m p n w
  else if 0<=(kQ m p n).fi/\copied m p n=false/\pq m.st (kQ m p n).fi ((kQ m p n).ba+n-(kQ m p n).fr)=true then 9
  else if(nK m p n w).2<0 then 10 else(nK m p n w).1.e:=by
  unfold wZ;rw[if_neg (by rw[Iw.2 A];simp),if_neg (by rw[bu,I];simp;omega),bu]
 rw[J];cases hg:eT m p n with
 | none=>
  left
  have N:il (dD m p).ar n<0:=by have W:¬0<=il (dD m p).ar n:=λh2=>(yM (dD m p).ar n).1 h2 hg;omega
  have:pQ m p n w=5:=by unfold pQ;rw[if_pos N]
  rw[this,if_pos (by decide)];exact⟨rfl,rfl⟩
 | some g=>
  right
  refine⟨g,rfl,?_⟩;obtain⟨a1,Z,V,Y,X,S,G⟩:=Bw hg
  by_cases u:wH g w=true
  .right
   refine⟨u,?_⟩;have b:(w=true->g.wr=true)/\(w=false->g.rd=true):=by
    unfold wH at u;cases w
    .exact⟨λe=>(by cases e),λ_=>by simpa using u⟩
    .exact⟨λ_=>by simpa using u,λe=>(by cases e)⟩
   rw[(JB hg).2 b,if_neg (by decide)];have c:(0<=(kQ m p n).fi/\copied m p n=false/\pq m.st (kQ m p n).fi ((kQ m p n).ba+n-(kQ m p n).fr)=true)↔(0<=g.fi/\vO m p n=none/\¬qK m.st g.fi g.pg):=by
    rw[S,MI];constructor
    .rintro⟨z,D,E⟩;rw[G z]at E;exact⟨z,D,λM=>nU A.pt.st M (.inr E)⟩
    rintro⟨z,D,E⟩;refine⟨z,D,?_⟩;rw[G z];refine rV λa=>E (zV A.pt.st z (A.pt.pg hg).1 λy => ?_);rcases y with y|y
    .have:=F.fi p n g hg;omega
    .exact a y
   by_cases C:0<=g.fi/\vO m p n=none/\¬qK m.st g.fi g.pg
   .left
    rw[if_pos (c.2 C)];exact⟨C,rfl⟩
   right
   rw[if_neg (λh=>C (c.1 h))];refine⟨C,?_⟩;have d:0<=g.fi->(ent m p n).k=0->qK m.st g.fi g.pg:=λz D=>rV λL=>C ⟨z,JE D,L⟩;obtain⟨j,i,l⟩:=Mx A O (w:=w) K hg b.1 d
   by_cases y:(nK m p n w).2<0
   .left
    rw[if_pos y];exact⟨rfl,y⟩
   right
   rw[if_neg y,j];have U:=i (by omega);refine⟨rfl,by show 0<=(nK m (p:Int).toNat n w).2;rw[bu];omega,?_⟩;have:=U.mark (e:=(nK m p n w).1.e) hg;unfold KD Lu;rw[bu,V];exact this
  left
  have f : wH g w=false:=by simpa using u
  refine⟨f,?_⟩;have a:pQ m p n w≠0:=λe=>by
   have:=(JB hg).1 e;unfold wH at u;cases w
   .exact u (by simpa using this.2 rfl)
   .exact u (by simpa using this.1 rfl)
  have R:pQ m p n w=8:=by
   unfold pQ at a ⊢;rw[if_neg (by omega)]at a ⊢;split at a
   .rename_i h;rw[if_pos h]
   .exact absurd rfl a
  rw[if_pos a,R]
theorem srt_on9:∀ {l:List Ar} {u:Int},srtF u l->∀a∈l,∃n,onA l n=some (kN a n)
 | [],_,_,_,h=>by cases h
 | b::l,u,hs,a,h=>by
  rcases dx.1 h with rfl|h
  .refine⟨a.fr,?_⟩;rw[dn,if_pos];have:=(bM hs.1).2.1;rw[dM];omega
  obtain⟨n,d⟩:=srt_on9 hs.2.2 a h;refine⟨n,?_⟩;rw[dn,if_neg]
  .exact d
  intro y;rw[dM]at y;rw[on_low hs.2.2 y.2]at d;cases d
theorem Tz.fi9(h:Tz m):Va m:=λp a u=>by
 obtain⟨n,d⟩:=srt_on9 (lI (iZ.1 (h.rt.pt.arN p)).2) a u;exact h.fi p n _ d
theorem SL(y:Rt H.ma)(A:Co H.ma)(h:∀p∈H.sp,∀n g,onA p.ar n=some g->g.fi<H.fi.length):Tz H.ma:=⟨y,A,λp n g d=>by
 rw[show H.ma.st.fs.length=H.fi.length from dV _]
 by_cases u:p<H.sp.length
 .have z:H.sp[p]?=some H.sp[p]:=aF u;unfold eT at d;rw[pV z]at d;exact h _ (eu u) n g d
 unfold eT at d;rw[qA (by rw[tV];omega)]at d;cases d⟩
theorem Uk(H:MH)(p n:Int)(wr:Bool)(w:World)(h:FK w H)(D:Rt H.ma)(K:Co H.ma)(G:zB H p) :
  Calls Tryz.prog 19 #[.agg (fF H),.int .i64 p,.int .i64 n,.bool wr] w λr w'=>r = .returned (.tuple #[.agg (fF noH),.int .i64 0,.int .i64 5])/\Below w.heap.size w w':=by
 have j:=ae G;clear G;have s:=ae D;have x:=ae K;have t:=ae (vX D);clear D K;go_enter func19,ntmps19;go_upto_region 1 with(fail);refine uT (λW=>Code.wp _ _ _ _ W) λw1 g y z m => ?_;have y:aG w1 w.heap.size (fF H) 45:=y;have z:aG w1 (w.heap.size+1) (fF noH) 45:=z;have C:=h.below g;clear h
 go_wp2_with (refine ay _ _ rfl w.heap.size 0 rfl rfl _ y.rd _ underlying45 rfl machine_size ?_)
 refine(Ct H _ C (Iw.2 s.out)).mono ?_;rintro r w2 ⟨rfl,f⟩;have h2:=C.below f;have E:=y.ext f;have A:=z.ext f;have a:=ag g f;clear C y z g f m;have I:=E.cell;unfold fF at I
 by_cases S:p<0
 .skip
  go_wp2_with (refine aA rfl _ _ _ rfl (w.heap.size+1) (fF noH) rfl rfl _ _ A rfl mach_size (ku noH) ?_)
  intro F c d;have b:=a.grown d a.size oG0;go_wp2;refine bodyPost_ret (v:=.tuple #[.agg (fF noH),.int .i64 0,.int .i64 5]) (bZ results19 _ _ (w.heap.size+1) _ _ _ _ _ rfl rfl rfl c underlying45 rfl mach_size) rfl ?_;exact⟨rfl,b⟩
 by_cases R:(H.sp.length:Int)<=p
 .skip
  go_wp2_with (refine aA rfl _ _ _ rfl (w.heap.size+1) (fF noH) rfl rfl _ _ A rfl mach_size (ku noH) ?_)
  intro F c d;have b:=a.grown d a.size oG0;go_wp2;refine bodyPost_ret (v:=.tuple #[.agg (fF noH),.int .i64 0,.int .i64 5]) (bZ results19 _ _ (w.heap.size+1) _ _ _ _ _ rfl rfl rfl c underlying45 rfl mach_size) rfl ?_;exact⟨rfl,b⟩
 obtain⟨P,M⟩:∃P:Nat,p=P:=⟨p.toNat,by omega⟩;subst M;have o:P<H.sp.length:=by omega
 obtain⟨N,L,Q,q,J,i⟩:=rG h2.sp.rd P o;rw[q]at I;have u:w2.cell? ⟨N,L+P*10,none⟩=some (.bool false):=by
  obtain⟨U,O,e',l⟩:=i 0 _ rfl;cases e';have C:Q.lv=false:=by
   rcases j.out with e|e|e
   .omega
   .omega
   .rw[bu,pV J]at e;exact e
  rw[C]at l;exact l
 clear J i j
 go_wp2_with (refine aA rfl _ _ _ rfl (w.heap.size+1) (fF noH) rfl rfl _ _ A rfl mach_size (ku noH) ?_)
 intro F c d;have b:=a.grown d a.size oG0;go_wp2;refine bodyPost_ret (v:=.tuple #[.agg (fF noH),.int .i64 0,.int .i64 5]) (bZ results19 _ _ (w.heap.size+1) _ _ _ _ _ rfl rfl rfl c underlying45 rfl mach_size) rfl ?_;exact⟨rfl,b⟩
def VG(m:Ma)(b:Prop)(p n:Int)(wr:Bool)(e:Int):Prop:=
 e=5/\(b\/eT m p.toNat n=none)\/¬b/\∃g,eT m p.toNat n=some g/\(e=8/\wH g wr=false\/wH g wr=true /\
  (e=9/\(0<=g.fi/\vO m p.toNat n=none/\¬qK m.st g.fi g.pg)\/e=10/\(nK m p.toNat n wr).2<0/\¬(0<=g.fi/\vO m p.toNat n=none/\¬qK m.st g.fi g.pg)))
def Yx(H:MH)(p n:Int)(wr:Bool)(w:World)(r:Ending)(w' : World):Prop:=
 Below w.heap.size w w'/\((∃e:Int,r = .returned (.tuple #[.agg (fF noH),.int .i64 0,.int .i64 e])/\e≠0/\VG H.ma (zB H p) p n wr e) \/
  ∃(P:Nat) (H' : MH) (f:Nat) (g:Pg),p=P/\P<H.sp.length/\¬zB H p/\eT H.ma P n=some g/\wH g wr=true/\r = .returned (.tuple #[.agg (fF H'),.int .i64 f,.int .i64 0])/\wV w' w.heap.size H'/\f<H'.m.fs.length/\Vt H.ma H'.ma P n wr g f)
theorem EI(H:MH)(p n:Int)(wr:Bool)(w:World)(h:FK w H)(C:Tz H.ma) :
  Calls Tryz.prog 19 #[.agg (fF H),.int .i64 p,.int .i64 n,.bool wr] w (Yx H p n wr w):=by
 by_cases z:zB H p
 .refine(Uk H p n wr w h C.rt C.co z).mono ?_;rintro r w' ⟨rfl,c⟩;exact⟨c,.inl ⟨5,rfl,by decide,.inl ⟨rfl,.inl z⟩⟩⟩
 obtain⟨P,rfl,G,K⟩:∃P:Nat,p=P/\P<H.sp.length/\(dD H.ma P).lv=true:=by
  refine⟨p.toNat,?_,?_,?_⟩
  .have:¬p<0:=λe=>z (.inl e);omega
  .have y:¬p<0:=λe=>z (.inl e);have h2:¬(H.sp.length:Int)<=p:=λe=>z (.inr (.inl e));omega
  cases e:(dD H.ma p.toNat).lv with
  | true=>rfl
  | false=>exact absurd (.inr (.inr e)) z
 refine(TF H P n wr w h C.rt C.co C.fi9 G K).mono ?_;rintro r w' ⟨c,b⟩;refine⟨c,?_⟩;have a:=UR C (n:=n) (w:=wr) (by rw[tV];exact G) K;rcases b with⟨E,rfl⟩|⟨A,H',rfl,M,I⟩
 .left
  refine⟨_,rfl,E,?_⟩;unfold VG;rw[bu];rcases a with⟨y,h2⟩|⟨g,J,y⟩
  .exact .inl ⟨h2,.inr y⟩
  right
  refine⟨z,g,J,?_⟩;rcases y with⟨y,h2⟩|⟨y,h2⟩
  .exact .inl ⟨h2,y⟩
  right
  refine⟨y,?_⟩;rcases h2 with⟨F,u⟩|⟨F,u⟩
  .exact .inl ⟨u,F⟩
  right
  rcases u with u|u
  .exact⟨u.1,u.2,F⟩
  .exact absurd u.1 E
 right
 rcases a with⟨y,h2⟩|⟨g,J,y⟩
 .rw[h2]at A;cases A
 rcases y with⟨y,h2⟩|⟨y,h2⟩
 .rw[h2]at A;cases A
 rcases h2 with⟨F,u⟩|⟨F,u⟩
 .rw[u]at A;cases A
 rcases u with⟨u,_⟩|⟨_,O,D⟩
 .rw[u]at A;cases A
 obtain⟨f,N⟩:∃f:Nat,Lu H.ma P n wr=f:=⟨(Lu H.ma P n wr).toNat,by omega⟩;rw[N]at D ⊢;rw[<-I]at D;obtain⟨L,R,d,_⟩:=gM D.rt D.k1;have:L = f:=by have:=D.en;omega
 subst this;exact⟨P,H',L,g,rfl,G,z,J,y,rfl,M,d,D⟩
theorem wD(l:List Fr)(x:Nat)(y:Fr):dR l<=dR (l.set x y)+1:=by
 unfold dR
 induction l generalizing x with
 | nil=>simp
 | cons a l ih=>
  cases x with
  | zero=>
   rw[qD,ou,ou];split<;>split<;>simp<;>omega
  | succ x=>
   have:=ih x;rw[uf,ou,ou];split<;>simp<;>omega
theorem Lf{k:Kp}{P:Page}{f i:Int}(d:dR k.m.m.fs≠0):∃y:Fr,(eO k P f i).1.m.m.fs=if(eO k P f i).2<0 then k.m.m.fs else k.m.m.fs.set (eO k P f i).2.toNat y:=by
 unfold eO;rw[if_neg d];unfold kT
 by_cases h:iq k.m.m P f i≠0
 .rw[if_pos h];exact⟨fr0,by simp⟩
 rw[if_neg h];refine⟨bK P f i,?_⟩;show(fB k.m.m P f i).fs=_;unfold fB;rw[if_pos (rf.1 h),if_neg (by simp)];simp
theorem QK(k:Kp)(f n:Int):∃y:Fr,(gF k f n).m.m.fs=k.m.m.fs.set f.toNat y\/(gF k f n).m.m.fs=k.m.m.fs:=by
 unfold gF;split
 .rename_i h;refine⟨ik (k.m.m.fs.getD f.toNat fr0) n,Or.inl ?_⟩;show(lW k.m.m f n).fs=_;unfold lW;rw[if_pos h]
 .exact⟨fr0,.inr rfl⟩
theorem JG(k:Kp)(p:Nat)(n:Int)(x:En):(eZ k p n x).m.m=k.m.m:=by unfold eZ;split<;>rfl
theorem QJ{k:Kp}{a:Ar}(C:dR k.m.m.fs≠0):dR k.m.m.fs<=dR (gZ k p n a).1.m.m.fs+1:=by
 have b:∀(k' : Kp) P f i,k'.m.m=k.m.m->dR k.m.m.fs<=dR (eO k' P f i).1.m.m.fs+1:=λk' P f i e=>by
  obtain⟨y,d⟩:=Lf (k:=k') (P:=P) (f:=f) (i:=i) (by rw[e];exact C);rw[d];split
  .rw[e];omega
  .rw[e];exact wD _ _ _
 unfold gZ;dsimp only;split
 .dsimp only;omega
 split
 .split
  .dsimp only;omega
  split
  .exact b _ _ _ _ rfl
  split
  .exact b _ _ _ _ rfl
  dsimp only;rw[JG];exact b _ _ _ _ rfl
 split
 .unfold WP;split
  .exact b _ _ _ _ rfl
  dsimp only;rw[JG];exact b _ _ _ _ rfl
 have c:(fu k a.fi (a.ba+n-a.fr)).2<0/\dR k.m.m.fs<=dR (fu k a.fi (a.ba+n-a.fr)).1.m.m.fs+1\/∃y,(fu k a.fi (a.ba+n-a.fr)).1.m.m.fs=k.m.m.fs.set (fu k a.fi (a.ba+n-a.fr)).2.toNat y:=by
  unfold fu;split
  .right
   exact⟨_,rfl⟩
  dsimp only;split
  .left
   exact⟨by show(-1:Int)<0;decide,b _ _ _ _ rfl⟩
  right
  rename_i u;obtain⟨y,d⟩:=Lf (k:=⟨k.m,Fz k a.fi (a.ba+n-a.fr)⟩) (P:=dz k.m a.fi (a.ba+n-a.fr)) (f:=a.fi) (i:=a.ba+n-a.fr) C;rw[if_neg u]at d;exact⟨y,d⟩
 split
 .rename_i u;rcases c with⟨_,h⟩|⟨y,h⟩
  .exact h
  .rw[h];exact wD _ _ _
 rename_i u;dsimp only;rw[JG];rcases c with⟨h,_⟩|⟨y,h⟩
 .exact absurd h u
 obtain⟨z,A|A⟩:=QK (fu k a.fi (a.ba+n-a.fr)).1 (fu k a.fi (a.ba+n-a.fr)).2 1
 .rw[A,h,DJ];exact wD _ _ _
 .rw[A,h];exact wD _ _ _
theorem Si(h:Rt m)(I:Co m){w:Bool}{g:Pg}(D:p<m.sp.length)(F:eT m p n=some g)(u:wH g w=true)(G:¬(0<=g.fi/\vO m p n=none/\¬qK m.st g.fi g.pg))(h2:2<=pF m.m.fs):¬(nK m p n w).2<0:=λy=>by
 have L:pF m.m.fs=dR m.m.fs:=by unfold pF dR;rw[Ah]
 have d : w=true->g.wr=true:=λe=>by unfold wH at u;rw[e]at u;simpa using u
 obtain⟨_,_,z⟩:=Mx h I (w:=w) D F d (λK J=>rV λE=>G ⟨K,JE J,E⟩);have C:dR m.m.fs≠0:=by omega
 have A:=QJ (k:=⟨m,0⟩) (p:=p) (n:=n) (a:=kQ m p n) C;rcases z y with e|e
 .exact C e
 rw[e]at A;have:dR m.m.fs<=0+1:=A;omega
theorem KJ{p:Int}{e:Int}(u:Tz H.ma)(z:VG H.ma (zB H p) p n wr e)(h2:2<=pF H.m.fs):e≠10:=by
 rintro rfl;rcases z with⟨h,_⟩|⟨d,g,A,⟨h,_⟩|⟨y,⟨h,_⟩|⟨_,D,C⟩⟩⟩
 .cases h
 .cases h
 .cases h
 refine Si u.rt u.co ?_ A y C h2 D;rw[tV];have E:¬p<0:=λe=>d (.inl e);have h2:¬(H.sp.length:Int)<=p:=λe=>d (.inr (.inl e));omega
theorem VN{g:Pg}(U:Vt m m' p n true g f)(y:eT m p n=some g)(C:g.sh=false):(aD m' f).f<0/\(aD m' f).r=1:=by
 have b : eT m' p n=some g:=by unfold eT at y ⊢; rw[U.vis.sk.ar];exact y
 obtain⟨A,I,D,E,F,c,G,d,a⟩:=gM U.rt U.k1;have:A = f:=by have:=U.en;omega
 subst this;have u:=U.own rfl C;rw[tF b U.k1]at u;have z:(aD m' A).f<0:=by have h:=of_decide_eq_true u;unfold jv at h;rw[U.en,bu]at h;exact h
 have h:=a.2.2.2.2 (U.ew rfl) z;have h2:=((dL _).1 (U.rt.pt.frE D)).1.1;exact⟨z,by omega⟩
def OO(l:List Ar)(n:Int):Bool:=match onA l n with
 | some g => !g.sh
 | none=>false
def Km(k:Nat)(ar:Nat->List Ar):List (Nat × Int):=(List.range k).flatMap λp=>((List.range 64).filter λn:Nat=>OO (ar p) n).map λn:Nat=>(p,(n:Int))
def OW(m:Ma):Nat:=(Km m.sp.length λp=>(dD m p).ar).length
theorem OY(h:Rt m){o:Page}(d:vO m p n=some o):(p,n)∈Km m.sp.length λp=>(dD m p).ar:=by
 have z:(ent m p n).k≠0:=λe=>by rw[JE e]at d;cases d
 have b:=mo z;obtain⟨g,A,a⟩:=h.en p n z;have u:g.sh=false:=by
  unfold vO at d
  by_cases k1:(ent m p n).k=1
  .rw[if_pos k1]at d
   by_cases C:(jv m (ent m p n).n).f<0
   .cases u:g.sh with
    | false=>rfl
    | true=>
     have:=(a.fr k1).2.1 u;have h2:(aD m (ent m p n).n.toNat).f<0:=C;omega
   .rw[if_neg C]at d;cases d
  rw[if_neg k1]at d
  by_cases y:(ent m p n).k=2
  .exact(a.sw y).2
  .rw[if_neg y]at d;cases d
 unfold Km;refine jV.2 ⟨p,dG.2 b.1,eU.2 ⟨n.toNat,uO.2 ⟨dG.2 (by omega),?_⟩,?_⟩⟩
 .rw[show((n.toNat:Nat):Int)=n by omega];unfold OO;unfold eT at A;rw[A];simp[u]
 .rw[show((n.toNat:Nat):Int)=n by omega]
theorem Vu(h:Rt m):((List.range m.m.fs.length).filter λi=>decide ((aD m i).r≠0/\(aD m i).f<0)).length+((List.range m.sl.length).filter λs=>decide (jS m s≠0)).length<=OW m:=by
 have A:(((List.range m.m.fs.length).filter λi=>decide ((aD m i).r≠0/\(aD m i).f<0)).map (λi:Nat=>((1:Int),(i:Int)))++((List.range m.sl.length).filter λs=>decide (jS m s≠0)).map (λi:Nat=>((2:Int),(i:Int)))).length
   <= ((Km m.sp.length λp=>(dD m p).ar).map λu=>((ent m u.1 u.2).k,(ent m u.1 u.2).n)).length:=by
  refine DN ?_ ?_
  .refine wJ.2 ⟨?_,?_,?_⟩
   .exact vv (λa b e=>Jd.1 (congrArg Prod.snd e)) (DU DT yj)
   .exact vv (λa b e=>Jd.1 (congrArg Prod.snd e)) (DU DT yj)
   intro a G b F e;obtain⟨i,_,rfl⟩:=eU.1 G;obtain⟨j,_,rfl⟩:=eU.1 F;have:=congrArg Prod.fst e;simp at this
  intro x z;rcases gH.1 z with z|z
  .obtain⟨i,d,rfl⟩:=eU.1 z;simp only[uO,dG,decide_eq_true_eq]at d;obtain⟨I,J⟩:=Hw h d.1 d.2.2;have C:=h.cf i d.1;rw[I]at C;obtain⟨p,n,D,E,k1,y⟩:=(lJ (m:=m) (kd:=1) (i:=i) (by decide)).1 (by omega);refine eU.2 ⟨(p,n),OY h (o:=(aD m i).p) ?_,by rw[k1,y]⟩;unfold vO;rw[if_pos k1,y];exact if_pos d.2.2
  obtain⟨i,d,rfl⟩:=eU.1 z;simp only[uO,dG,decide_eq_true_eq]at d;have C:=h.cs i d.1;obtain⟨p,n,D,E,k1,y⟩:=(lJ (m:=m) (kd:=2) (i:=i) (by decide)).1 (by omega);refine eU.2 ⟨(p,n),OY h (o:=dA m.sw i) ?_,by rw[k1,y]⟩;unfold vO;rw[if_neg (by omega),if_pos k1,y]
 unfold OW;simpa using A
theorem Uv(h:Rt m):m.ca.length<=(kJ m.st).length:=by
 have u:(m.ca.map λc=>(c.f,c.i)).length<=((List.range m.st.fs.length).flatMap λf:Nat=>(List.range (aN m.st f).b.length).map λi:Nat=>((f:Int),(i:Int))).length:=by
  refine DN ?_ ?_
  .unfold List.Nodup;rw[List.pairwise_map];refine List.Pairwise.imp ?_ h.ca.srt;intro a b g e;simp only[JL]at e;unfold CK at g;omega
  intro x z;obtain⟨c,A,rfl⟩:=eU.1 z;have d:=h.ca.file c A;have y:=d.1;have h2:=d.2;refine jV.2 ⟨c.f.toNat,dG.2 (by omega),eU.2 ⟨c.i.toNat,dG.2 (by rw[show((c.f.toNat:Nat):Int)=c.f by omega];omega),?_⟩⟩;rw[show((c.f.toNat:Nat):Int)=c.f by omega,show((c.i.toNat:Nat):Int)=c.i by omega]
 have e:((List.range m.st.fs.length).flatMap λf:Nat=>(List.range (aN m.st f).b.length).map λi:Nat=>((f:Int),(i:Int))).length=(kJ m.st).length:=by
  unfold kJ;rw[Aq,Aq];congr 1;apply qZ
  .simp
  intro i y h2;simp only[dV,rJ]at y;have:aN m.st (i:Int)=m.st.fs[i]:=iE (aF y);simp[this]
 rw[dV,e]at u;exact u
theorem SH(h:Rt m):((List.range m.m.fs.length).filter λi=>decide ((aD m i).r≠0/\0<=(aD m i).f)).length<=m.ca.length:=by
 have d:(((List.range m.m.fs.length).filter λi=>decide ((aD m i).r≠0/\0<=(aD m i).f)).map (λi:Nat=>(i:Int))).length<=(m.ca.map Cc.k).length:=by
  refine DN ?_ ?_
  .exact vv (λa b e=>Jd.1 e) (DU DT yj)
  intro x y;obtain⟨i,u,rfl⟩:=eU.1 y;simp only[uO,dG,decide_eq_true_eq]at u;obtain⟨c,A,z⟩:=h.fc i u.1 u.2.2;exact eU.2 ⟨c,A,z⟩
 simpa using d
theorem Tt(s:St):(kJ s).length=((List.range s.fs.length).map λf:Nat=>(aN s f).b.length).sum:=by
 unfold kJ;rw[Aq];congr 1;apply qZ
 .simp
 intro i d h2;simp only[dV,rJ]at d;have:aN s (i:Int)=s.fs[i]:=iE (aF d);simp[this]
def tL(t:List En):List Value:=(List.range 64).flatMap λi=>lY (t.getD i zEn)
theorem zo(t:List En):(tL t).length=192:=by
 unfold tL;rw[Pw.flat_len (λi=>lY (t.getD i zEn)) 3 (λ_=>gz _),rJ]
structure MW where
 al:Option Addr
 cl:Nat
 l:List UInt8
 H:MH
 ab:Option Addr
 cb:Nat
 T:List (List En)
def jI(S:MW):Array Value:=#[.slice S.al S.l.length S.cl,.slice S.H.af S.H.m.fs.length S.H.cf,.int .i64 S.H.m.hand,.slice S.H.asl S.H.sl.length S.H.csl,.slice S.H.wb S.H.sw.blocks.length S.H.cwb,.slice S.H.wq S.H.sw.queue.length S.H.cwq,
 .slice S.H.db S.H.dk.blocks.length S.H.cdb,.slice S.H.dq S.H.dk.queue.length S.H.cdq,.slice S.H.ai S.H.fi.length S.H.ci,.int .i64 S.H.ct,.slice S.H.ac S.H.ca.length S.H.cc,.slice S.H.ap S.H.sp.length S.H.cp,.slice S.ab S.T.length S.cb]
def iW(S:MW):List (Option Nat):=[oB S.H.af,oB S.H.asl,oB S.H.wb,oB S.H.db,oB S.H.dq,oB S.H.ai,oB S.H.ac,oB S.H.ap,oB S.ab]
def nL(b:Nat)(S:MW)(x:Nat):Prop:=x=b\/some x∈iW S
structure fD (w:World) (B b:Nat) (S:MW):Prop where
 blk:aG w b (jI S) 98
 ge:B<=b
 ma:wV w B S.H
 tt:Own w B 69 192 (.slice S.ab S.T.length S.cb) S.T.length (S.T.flatMap tL)
 rd:ve w S.al S.cl S.l.length (S.l.map CY)
 ra:∀a,S.al=some a->S.l.map CY≠[]->a.block<B
 n1:∀x,oB S.H.wb=some x->oB S.H.db≠some x
 n2:∀p∈S.H.fi,∀x,oB p.a=some x->oB S.H.asl≠some x
 n3:S.H.wq=none
structure MS (w0:World) (b:Nat) (S0:MW) (w:World) (S:MW):Prop where
 os:w.os=w0.os
 tape:w.tape=w0.tape
 output:w.output=w0.output
 size:w0.heap.size<=w.heap.size
 keep:∀x,x<w0.heap.size->¬nL b S0 x->w.heap[x]?=w0.heap[x]?
 sn:∀x,nL b S x->nL b S0 x\/w0.heap.size<=x
theorem MS.refl(w:World)(b:Nat)(S:MW):MS w b S w S:=⟨rfl,rfl,rfl,az _,λ_ _ _=>rfl,λ_ h => .inl h⟩
theorem MS.trans{C A z:MW}(h:MS w0 b C w1 A)(k:MS w1 b A w2 z):MS w0 b C w2 z:=
 ⟨k.os.trans h.os,k.tape.trans h.tape,k.output.trans h.output,bi h.size k.size,λx d y=>(k.keep x (oL d h.size) (λD=>(h.sn x D).elim y (λu=>absurd d (Df.2 u)))).trans (h.keep x d y),
  λx d=>(k.sn x d).elim (h.sn x) (λu => .inr (bi h.size u))⟩
theorem MS.below{y H:MW}(h:MS w0 b y w H)(d:Below w.heap.size w w'):MS w0 b y w' H:=
 ⟨d.os.trans h.os,d.tape.trans h.tape,d.output.trans h.output,bi h.size d.size,λx u z=>(d.block x (oL u h.size)).trans (h.keep x u z),h.sn⟩
theorem MS.put{y:Nat}{H0 H H' : MW}(h:MS w0 b H0 w H)(z:w.grownBy w' (some y))(A:nL b H y)(C:∀x,nL b H' x->nL b H x\/w0.heap.size<=x):MS w0 b H0 w' H':=
 ⟨z.os.trans h.os,z.tape.trans h.tape,z.output.trans h.output,bi h.size z.size,λx d u=>(z.block x (oL d h.size) (λe=>by have e' : x=y:=aM e;rw[<-e']at A;exact(h.sn x A).elim u (λD=>absurd d (Df.2 D)))).trans (h.keep x d u),λx d=>(C x d).elim (h.sn x) .inr⟩
theorem MS.loc{y:Nat}{A H:MW}(h:MS w0 b A w H)(d:w.grownBy w' (some y))(C:w0.heap.size<=y):MS w0 b A w' H:=
 ⟨d.os.trans h.os,d.tape.trans h.tape,d.output.trans h.output,bi h.size d.size,λx z u=>(d.block x (oL z h.size) (λe=>by have e' : x=y:=aM e;omega)).trans (h.keep x z u),h.sn⟩
theorem MS.same{H0 H H' : MW}(h:MS w0 b H0 w H)(u:iW H' = iW H):MS w0 b H0 w H':=
 { h with sn:=λx d=>h.sn x (by unfold nL at d ⊢; rw[<-u];exact d) }
theorem fD.lt{S:MW}(h:fD w B b S):b<w.heap.size:=h.blk.lt
theorem fD.bs{S:MW}(h:fD w B b S):B<=w.heap.size:=bi h.ge (rZ h.lt)
theorem fD.below{S:MW}(h:fD w B b S)(d:Below w.heap.size w w'):fD w' B b S:=⟨h.blk.ext d,h.ge,h.ma.below d,h.tt.below d,h.rd.below d,h.ra,h.n1,h.n2,h.n3⟩
theorem fD.kb_own{S:MW}(h:fD w B b S){x:Nat}(d:nL b S x):B<=x/\x<w.heap.size:=by
 have own:∀ {e:TypeId} {sz n c:Nat} {a:Option Addr} {xs:List Value},Own w B e sz (.slice a n c) n xs->oB a=some x->B<=x/\x<w.heap.size:=λu d=>by obtain⟨y,cs,h2⟩:=je u d;exact⟨y,h2.lt⟩
 rcases d with d|d
 .rw[d];exact⟨h.ge,h.lt⟩
 simp only[iW,dx,gW,or_false]at d;rcases d with d|d|d|d|d|d|d|d|d
 .exact own h.ma.fr d.symm
 .exact own h.ma.sl d.symm
 .exact own h.ma.sw.b d.symm
 .exact own h.ma.dk.b d.symm
 .exact own h.ma.dk.q d.symm
 .exact own h.ma.st.own d.symm
 .exact own h.ma.ca d.symm
 .exact own h.ma.sp d.symm
 .exact own h.tt d.symm
theorem MS.to{u S:MW}(h:fD w0 B b u)(d:MS w0 b u w S)(A:B0<=B):Below B0 w0 w:=
 ⟨d.os,d.tape,d.output,d.size,λx z=>d.keep x (by have:=h.bs;omega) (λy=>by have:=(h.kb_own y).1;omega)⟩
theorem MS.blkN{x:Nat}{h S:MW}(y:MS w0 b h w S)(d:aG w0 x cs T)(u:¬nL b h x):aG w x cs T:=(y.keep x d.lt u).trans d
theorem MS.not{x:Nat}{d S:MW}(y:MS w0 b d w S)(z:x<w0.heap.size)(u:¬nL b d x):¬nL b S x:=λh=>(y.sn x h).elim u (λh=>by omega)
theorem MS.ownN{A S:MW}{n:Nat}(D:MS w0 b A w S)(z:Own w0 B' t sz v n xs)(C:∀x,v.ownBlock=some x->¬nL b A x):Own w B' t sz v n xs:=
 ⟨z.1,z.2.imp id λ⟨g,d,u,h,y,F,E,r⟩=>⟨g,d,u,h,y,F,D.blkN E (C g (by rw[y];rfl)),r⟩⟩
theorem fD.new{S:MW}(h:fD w B b S){x:Nat}(u:w.heap.size<=x):¬nL b S x:=λd=>by have:=(h.kb_own d).2;omega
theorem ve.keep{n:Nat}(h:ve w a c n vs)(E:∀x,a=some x->vs≠[]->x.block<B)(I:B<=w.heap.size)(C:w.grownBy w' (some g))(A:B<=g):ve w' a c n vs:=
 ⟨h.le,h.mx,h.nl,λi u d=>by obtain⟨y,z,e,D⟩:=h.rd i u d;have G:y < B:=E _ e (λF=>by rw[F]at d;cases d);exact⟨y,z,e,C.cell D (λe=>by have J:y = g:=aM e;omega)⟩⟩
theorem fD.putL{S:MW}(h:fD w B b S){l:List UInt8}(y:ve w a c l.length (l.map CY))(u:∀x,a=some x->l.map CY≠[]->x.block<B)(z:aG w' b (bJ (jI S) 0 [.slice a l.length c]) 98)(d:w.grownBy w' (some b)) :
  fD w' B b { S with al:=a,cl:=c,l:=l }:=
 ⟨z,h.ge,h.ma.keep h.blk (by decide) d,ax h.tt h.blk (by decide) d,y.keep u h.bs d h.ge,u,h.n1,h.n2,h.n3⟩
theorem wV.putF(h:wV w B H)(d:aG w g cs 66)(u:w.grownBy w' (some g)){m:Mem}(z:Own w' B 66 13 (.slice H.af m.fs.length H.cf) m.fs.length (m.fs.flatMap pR)):wV w' B { H with m:=m }:=
 ⟨z,ax h.sl d (by decide) u,h.sw.keep d (by decide) (by decide) u,h.dk.keep d (by decide) (by decide) u,h.st.keep d (by decide) (by decide) u,ax h.ca d (by decide) u,ax h.sp d (by decide) u,λp y=>⟨ax (h.ps p y).1 d (by decide) u,(h.ps p y).2.keep d (by decide) u⟩,h.c64⟩
theorem fD.putF{S:MW}(h:fD w B b S)(u:aG w g cs 66)(y:B<=g)(d:w.grownBy w' (some g)){fs:List Fr}(A:fs.length=S.H.m.fs.length)(z:Own w' B 66 13 (.slice S.H.af fs.length S.H.cf) fs.length (fs.flatMap pR)) :
  fD w' B b { S with H:={ S.H with m:=⟨fs,S.H.m.hand⟩ } }:=
 ⟨by
  have C:=bY h.blk u (by decide) d;have e:jI { S with H:={ S.H with m:=⟨fs,S.H.m.hand⟩ } }=jI S:=by unfold jI;rw[show({ S.H with m:=⟨fs,S.H.m.hand⟩ }:MH).m.fs.length=S.H.m.fs.length from A]
  rw[e];exact C,h.ge,h.ma.putF u d (m:=⟨fs,S.H.m.hand⟩) z,ax h.tt u (by decide) d,h.rd.keep h.ra h.bs d y,h.ra,h.n1,h.n2,h.n3⟩
theorem OX(t:List En)(i r:Nat)(h:i<64)(d:r<3):(tL t)[i*3+r]?=(lY (t.getD i zEn))[r]?:=by
 unfold tL;rw[jZ (λi=>lY (t.getD i zEn)) 3 (λ_=>gz _) (List.range 64) i (by rw[rJ];exact h) r d,Je]
theorem Xl{t:List En}{n:Nat}{x:En}(G:t.length=64)(F:n<64)(y:Array Value)(o:Nat)(D:o+192<=y.size)(E:∀j u,(tL t)[j]?=some u->y[o+j]?=some u) :
  bJ y (o+n*3) (lY x)=bJ y o (tL (t.set n x)):=by
 have b:∀i,i<64->(t.set n x).getD i zEn=if i=n then x else t.getD i zEn:=λi A=>by
  rw[aY,oq]
  by_cases e:i=n
  .subst e;rw[if_pos rfl,if_pos (by omega),if_pos rfl];rfl
  .rw[if_neg (λh=>e h.symm),if_neg e,aY]
 apply mI;intro m;have c:(lY x).length=3:=gz x;have a:=zo (t.set n x)
 by_cases J:o<=m/\m<o+192
 .obtain⟨d,rfl⟩:∃d,m=o+d:=⟨m-o,by omega⟩;have I:d<192:=by omega
  obtain⟨i,r,A,C,rfl⟩:∃i r,i<64/\r<3/\d=i*3+r:=⟨d / 3,d%3,by omega,by omega,by omega⟩;obtain⟨u,z⟩:∃u,(tL (t.set n x))[i*3+r]?=some u:=⟨_,aF (by omega)⟩;rw[putAt_in _ _ _ _ u (by rw[a];exact D) z];rw[OX _ i r A C,b i A]at z
  by_cases e:i=n
  .subst e;rw[if_pos rfl]at z;rw[<-nV];exact putAt_in _ _ _ _ u (by omega) z
  rw[if_neg e]at z;rw[putAt_out _ _ _ _ (by omega)];exact E _ _ (by rw[OX _ i r A C];exact z)
 .rw[putAt_out _ _ _ _ (by omega),putAt_out _ _ _ _ (by omega)]
theorem fD.lst_len{S:MW}(d:p<S.T.length):fO S.T p=S.T[p]:=by
 unfold fO;rw[aY,aF d];rfl
theorem fD.ent{S:MW}(h:fD w B b S){n:Nat}(E:p<S.T.length)(G:n<64)(F:(fO S.T p).length=64) :
  ∃g y z,S.ab=some ⟨g,y,none⟩/\B<=g/\aG w g z 69/\y+p*192+n*3+3<=z.size/\(∀j u,(lY (fU S.T p n))[j]?=some u->w.cell? ⟨g,y+p*192+n*3+j,none⟩=some u) /\
   ∀w' x,aG w' g (bJ z (y+p*192+n*3) (lY x)) 69->w.grownBy w' (some g)->fD w' B b { S with T:=setL S.T p n x }:=by
 obtain⟨g,y,M,z,C,J,D,N,I,K⟩:=h.tt.put zo (by decide) p E;simp only[mK]at C;obtain⟨C,_,_⟩:=C;refine⟨g,y,z,C,J,D,by omega,λj u A => ?_,λw' x d c => ?_⟩
 .have i:j<3:=by
   rcases gu j 3 with h|h
   .exact h
   .rw[eY (by rw[gz];exact h)]at A;cases A
  have:=I (n*3+j) u (by rw[OX _ n j G i,<-fD.lst_len E];exact A);rw[<-this];congr 2;omega
 have f:∀j u,(tL (fO S.T p))[j]?=some u->z[y+p*192+j]?=some u:=λj u A=>by rw[fD.lst_len E]at A;have:=I j u A;rw[D.cell]at this;exact this
 rw[Xl F G z _ (by omega) f]at d;have L:=K w' _ d;have a:({ S with T:=setL S.T p n x }:MW).T.length=S.T.length:=by show(setL S.T p n x).length=_;unfold setL;rw[bL]
 refine⟨?_,h.ge,h.ma.keep D (by decide) c,?_,h.rd.keep h.ra h.bs c J,h.ra,h.n1,h.n2,h.n3⟩
 .have e:jI { S with T:=setL S.T p n x }=jI S:=by unfold jI;rw[a]
  rw[e];exact bY h.blk D (by decide) c
 .rw[a];exact L
theorem fD.putS{S:MW}(h:fD w B b S)(u:aG w g cs 3)(C:B<=g)(A:oB S.H.asl=some g)(d:w.grownBy w' (some g))(E:sl.length=S.H.sl.length)(D:Own w' B 3 1 (.slice S.H.asl sl.length S.H.csl) sl.length (sl.map gB)) :
    fD w' B b { S with H:={ S.H with sl:=sl } }:=
  ⟨by
    have F:=bY h.blk u (by decide) d;have e:jI { S with H:={ S.H with sl:=sl } }=jI S:=by unfold jI;rw[show({ S.H with sl:=sl }:MH).sl.length=S.H.sl.length from E]
    rw[e];exact F,h.ge,
   ⟨ax h.ma.fr u (by decide) d,D,h.ma.sw.keep u (by decide) (by decide) d,h.ma.dk.keep u (by decide) (by decide) d,⟨ax h.ma.st.own u (by decide) d,λi p z=>(h.ma.st.each i p z).grown d (λG y e=>by cases e;unfold nQ at y;rw[jF]at y;exact h.n2 p (bS z) _ y A),h.ma.st.apart⟩,ax h.ma.ca u (by decide) d,ax h.ma.sp u (by decide) d,λp z=>⟨ax (h.ma.ps p z).1 u (by decide) d,(h.ma.ps p z).2.keep u (by decide) d⟩,h.ma.c64⟩,
   ax h.tt u (by decide) d,h.rd.keep h.ra h.bs d C,h.ra,h.n1,h.n2,h.n3⟩
theorem fD.putW{S:MW}(h:fD w B b S)(u:aG w g cs 58)(A:B<=g)(z:oB S.H.wb=some g)(d:w.grownBy w' (some g)){l:List Page}(E:l.length=S.H.sw.blocks.length)(D:Own w' B 58 8 (.slice S.H.wb l.length S.H.cwb) l.length (l.flatMap Dy)) :
    fD w' B b { S with H:={ S.H with sw:=⟨l,S.H.sw.queue⟩ } }:=
  ⟨by
    have F:=bY h.blk u (by decide) d;have e:jI { S with H:={ S.H with sw:=⟨l,S.H.sw.queue⟩ } }=jI S:=by unfold jI;rw[show({ S.H with sw:=⟨l,S.H.sw.queue⟩ }:MH).sw.blocks.length=S.H.sw.blocks.length from E]
    rw[e];exact F,h.ge,
   ⟨ax h.ma.fr u (by decide) d,ax h.ma.sl u (by decide) d,⟨D,ax h.ma.sw.q u (by decide) d⟩,⟨h.ma.dk.b.grown d (λG y e=>by cases e;rw[jF]at y;exact h.n1 _ z y),ax h.ma.dk.q u (by decide) d⟩,h.ma.st.keep u (by decide) (by decide) d,ax h.ma.ca u (by decide) d,ax h.ma.sp u (by decide) d,λp C=>⟨ax (h.ma.ps p C).1 u (by decide) d,(h.ma.ps p C).2.keep u (by decide) d⟩,h.ma.c64⟩,
   ax h.tt u (by decide) d,h.rd.keep h.ra h.bs d A,h.ra,h.n1,h.n2,h.n3⟩
theorem fD.setC{S:MW}(h:fD w B b S){l:List Cc}(u:Own w B 122 3 (.slice a l.length c) l.length (l.flatMap iQ))(y:aG w' b (bJ (jI S) 10 [.slice a l.length c]) 98)(d:w.grownBy w' (some b)) :
  fD w' B b { S with H:={ S.H with ac:=a,cc:=c,ca:=l } }:=
 ⟨y,h.ge,{ h.ma.keep h.blk (by decide) d with ca:=ax u h.blk (by decide) d },ax h.tt h.blk (by decide) d,h.rd.keep h.ra h.bs d h.ge,h.ra,h.n1,h.n2,h.n3⟩
end Go.Proofs.YthihaopabbpalaaGreat