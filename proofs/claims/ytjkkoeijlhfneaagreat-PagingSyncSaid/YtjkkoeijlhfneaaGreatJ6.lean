import Derived.Test.YtjkkoeijlhfneaaGreatJ5
import Derived.ArgAppend
import Derived.Deep.DeepCutAuto
import Derived.BigRegion
set_option linter.unusedSimpArgs false
set_option linter.unusedVariables false
set_option maxHeartbeats 4000000
set_option maxRecDepth 100000
namespace Go.Proofs.YtjkkoeijlhfneaaGreat
open _root_.Go.Proofs.Tryz
open Go.RowKit Go.Maps Pw
variable {B B' b c c' cl ct f g g' gd gf gs gw gx i k n n' off p q s sz:Nat} {F:PF} {L L':Nat → Bool} {P:Program} {Q:Exit → Act → World → Prop} {S S' S0:MW} {T e e' t:TypeId} {W W' W0 w w' w0 w1 w2:World} {a a' al as0:Option Addr} {bl:List Page} {cs cur z zf zp zs:Array Value} {fi0:List PF} {m:Ma} {o:Oper} {old vs xs ys:List Value} {ops:Array Oper} {rest:List Oper} {sp:List PS} {v v0:Value} {x:Operand} {y:Nat → Value} {ρ:Operand → Value}
theorem KH (s x:Operand) (t:TypeId) (ho:o.op=Op.call { callee:=Callee.builtin Builtin.append,args:=#[s,x],argTypes:=#[t,t] })
 (B:Nat) (e:TypeId) (z:Value) (size bytes:Nat) (h1:P.underlying t=some (.slice e)) (h2:(P.info? e).map (fun i=>(i.zero,i.size,i.bytes))=some (some z,size,bytes)) (h6:z.cells.size=size) (h7:0<size)
 (g:Nat) (hs:ρ s = .slice (some ⟨g,0,none⟩) 0 0) (hown:Own w B e size (.slice (some ⟨g,0,none⟩) 0 0) 0 [])
 (ao:Option Addr) (m c:Nat) (news:List Value) (hx:ρ x = .slice ao m c) (hnone:ao=none→c=0) (hmc:m≤c) (hn:news.length=m*size) (hrd:dP w ao news)
 (b1:m≤maxLen) (b2:m*bytes≤140737488355328) (hB:B≤w.heap.size) :
  ∃v' w',(execOp ρ o).run P w = .ok (.value v') w'∧Below w.heap.size w w'∧Own w' B e size v' m news:=by
 obtain⟨ii,hi,hz,a,l⟩:=info_parts h2;rcases sS m with h0|h0
 ·subst h0;obtain rfl:news=[]:=jM (by simpa using hn);refine⟨.slice (some ⟨g,0,none⟩) 0 0,w,?_,Below.refl _ _,hown⟩;cases ao with
  | none=>simp[execOp,ho,resolve,invoke,builtin,hs,hx,Builtin.append_,run_underlying h1,Go.sizeOf,typeInfo,hi,Builtin.lenOf,Builtin.firstCells,storeCells,Result.andThen]
  | some ad=>simp[execOp,ho,resolve,invoke,builtin,hs,hx,Builtin.append_,run_underlying h1,Go.sizeOf,typeInfo,hi,Builtin.lenOf,Builtin.firstCells,storeCells,loadCells,loadCellsFrom,Result.andThen]
 obtain⟨b,off,rfl,hc⟩:=hrd.at (by rw[hn];exact Nat.mul_pos h0 h7);obtain⟨v',w',hr,d,k⟩:=run_append_arg_grows (P:=P) w t o.type e ii z size bytes h1 hi hz a l h6 h7 ⟨g,0,none⟩ 0 0 [] (by simp) (fun j u h=>by simp at h) ⟨b,off,none⟩ m c news hn (fun j u hj=>by rw[sj];exact hc j u hj) (by omega) (by omega) (by rw[eu];exact b2);have f : Own w' B e size v' m news:=by have:=(Own.of_owns d).mono hB;simpa using this
 refine⟨v',w',?_,jZ k,f⟩;simp[execOp,ho,resolve,invoke,builtin,hs,hx,hr,Result.andThen]
theorem kU {l:List mg} {J:(Nat→Bool)→(Nat→Value)→World→Prop} {D:Value→World→Prop} (hw:Region.wanted o (gI ρ ops)=true) (h:∃v' w',(execOp ρ o).run P w = .ok (.value v') w'∧D v' w')
 (hJ:∀v w',D v w'→J (cO L i) (dG y i v) w') (hR:∀v w',D v w'→rl l i v w') :
  if Region.wanted o (gI ρ ops)=true then dM P o ρ w (fun v w'=>J (cO L i) (dG y i v) w'∧rl l i v w') else J (cO L i) (dG y i undef) w∧rl l i undef w:=by
 obtain⟨v,w',h1,h2⟩:=h;exact eP v hw h1 (hJ _ _ h2) (hR _ _ h2)
theorem Ru {l:List mg} {D:Value→Prop} (hw:Region.wanted o (gI ρ ops)=true) (h:∃v,(execOp ρ o).run P w = .ok (.value v) w∧D v) (hR:∀v,D v→rl l i v w) :
  if Region.wanted o (gI ρ ops)=true then dM P o ρ w (fun v w'=>Below w.heap.size w w'∧rl l i v w') else rl l i undef w:=by
 obtain⟨v,h1,h2⟩:=h;exact aj v hw h1 (hR _ h2)
theorem Gg {α:Type} (enc:α→List Value) (sz:Nat) (hsz:∀x,(enc x).length=sz):∀(l:List α) (k:Nat),(l.flatMap enc).take (k*sz)=(l.take k).flatMap enc
 | [],k=>by simp
 | x::l,0=>by simp
 | x::l,k+1=>by rw[lX,List.take_succ_cons,lX,CF,Jb,List.take_append,hsz,iN (by rw[hsz];omega),Ag,Gg enc sz hsz l k]
theorem Gd {α:Type} (enc:α→List Value) (sz:Nat) (hsz:∀x,(enc x).length=sz):∀(l:List α) (k:Nat),(l.flatMap enc).drop (k*sz)=(l.drop k).flatMap enc
 | [],k=>by simp
 | x::l,0=>by simp
 | x::l,k+1=>by rw[lX,zz,CF,Jb,List.drop_append,hsz,qa (by rw[hsz];omega),GV,Ag,Gd enc sz hsz l k]
theorem JA (l:List Cc) (c:Cc) (q:Nat) (hq:q≤l.length):((l.flatMap mD).take (q*3)++mD c)++(l.flatMap mD).drop (q*3)=(l.insertIdx q c).flatMap mD:=by
 rw[Gg mD 3 pE,Gd mD 3 pE];have:∀(l:List Cc) (q:Nat),q≤l.length→l.insertIdx q c=l.take q++c::l.drop q:=by
  intro l
  induction l with
  | nil=>
   intro q hq;obtain rfl:q=0:=by simpa using hq
   rfl
  | cons x l ih=>intro q hq;cases q with
   | zero=>rfl
   | succ q=>rw[GM,ih q (by simpa using hq)];rfl
 rw[this l q hq];simp[eY]
theorem uk.take (h:uk w a c n vs) (hk:k≤n):uk w a c k (vs.take (k*sz)):=
 ⟨bi hk h.le,h.mx,h.nl,fun j u hj=>h.rd j u (by
  rw[mh] at hj;split at hj
  ·exact hj
  ·cases hj)⟩
theorem SF {i:Operand} (ho:o.op = .slice t x none (some i) none) (hx:ρ x = .slice a n c) (hy:ρ i = .int .i64 (k:Int)) (hk:k≤n)
 (hu:P.underlying t=some (.slice e)) (hs:(P.info? e).map (·.size)=some sz) (h:uk W0 a c n vs):(execOp ρ o).run P w = .ok (.value (.slice a k c)) w∧uk W0 a c k (vs.take (k*sz)):=by
 obtain⟨inf,f,g⟩:∃inf,P.info? e=some inf∧inf.size=sz:=by
  cases h:P.info? e with
  | none=>rw[h] at hs;cases hs
  | some inf=>rw[h] at hs;exact⟨inf,rfl,by simpa using hs⟩
 have b:(Go.sizeOf e).run P w = .ok sz w:=by simp[Go.sizeOf,typeInfo,f,go_sem,g]
 have m:=h.le;refine⟨?_,bi hk h.le,h.mx,h.nl,fun j u hj=>h.rd j u (by
  rw[mh] at hj;split at hj
  ·exact hj
  ·cases hj)⟩
 have d:(k:Int)≤(c:Int):=by omega
 cases a with
 | none=>
  have l:=h.nl rfl;subst l;obtain rfl:k=0:=by omega
  simp[execOp,go_sem,ho,hx,hy,hu,b,d]
 | some ad=>simp[execOp,go_sem,ho,hx,hy,hu,b,d]
theorem QS {i:Operand} (ho:o.op = .slice t x (some i) none none) (hx:ρ x = .slice a n c) (hy:ρ i = .int .i64 (k:Int)) (hk:k≤n)
 (hu:P.underlying t=some (.slice e)) (hs:(P.info? e).map (·.size)=some sz) (hl:vs.length=n*sz) (h:uk W0 a c n vs):∃v,(execOp ρ o).run P w = .ok (.value v) w∧∃a' c',v = .slice a' (n-k) c'∧uk W0 a' c' (n-k) (vs.drop (k*sz)):=by
 obtain⟨inf,f,g⟩:∃inf,P.info? e=some inf∧inf.size=sz:=by
  cases h:P.info? e with
  | none=>rw[h] at hs;cases hs
  | some inf=>rw[h] at hs;exact⟨inf,rfl,by simpa using hs⟩
 have d:(Go.sizeOf e).run P w = .ok sz w:=by simp[Go.sizeOf,typeInfo,f,go_sem,g]
 have q:=h.le;have p:=h.mx;have l:(k:Int)≤(n:Int):=by omega
 have j:(n:Int)≤(c:Int):=by omega
 cases a with
 | none=>
  have m:=h.nl rfl;subst m;obtain rfl:n=0:=by omega
  obtain rfl:k=0:=by omega
  obtain rfl:vs=[]:=jM (by simpa using hl);exact⟨.slice none 0 0,by simp[execOp,go_sem,ho,hx,hy,hu,d],none,0,rfl,ay _,aV _,fun _=>rfl,by rw[Ab];exact dP.nil⟩
 | some ad=>
  by_cases hc:k=c
  ·subst hc;obtain rfl:k=n:=by omega
   refine⟨.slice (some ad) 0 0,by simp[execOp,go_sem,ho,hx,hy,hu,d],some ad,0,by rw[tV],by omega,aV _,fun e=>(by cases e),?_⟩;rw[qa (by omega)];exact dP.nil
  refine⟨.slice (some (ad.add (k*sz))) (n-k) (c-k),?_,some (ad.add (k*sz)),c-k,rfl,by omega,by omega,fun e=>(by cases e),?_⟩
  ·have h1:k<c:=by omega
   simp[execOp,go_sem,ho,hx,hy,hu,d,l,j,h1];exact fun e=>absurd e.symm hc
  intro i u hi;rw[rO] at hi;obtain⟨b,off,e1,e2⟩:=h.rd _ _ hi;cases e1;exact⟨b,off+k*sz,by rw[sj],by rw[mZ];exact e2⟩
def Ah (W0:World) (q:Nat) (l:List Cc) (c:Cc):(Nat→Bool)→(Nat→Value)→World→Prop:=fun L y W=>
 Below W0.heap.size W0 W∧(L 23=true→L 15=true)∧(L 15=true→L 9=true) ∧
 (L 1=true→L 9=false→∃g,y 1 = .slice (some ⟨g,0,none⟩) 0 0∧Own W W0.heap.size 106 3 (.slice (some ⟨g,0,none⟩) 0 0) 0 []) ∧
 (L 9=true→L 15=false→Own W W0.heap.size 106 3 (y 9) q ((l.flatMap mD).take (q*3))) ∧
 (L 14=true→L 15=false→∃a e,y 14 = .slice a 1 e∧uk W a e 1 (mD c)) ∧
 (L 15=true→L 23=false→Own W W0.heap.size 106 3 (y 15) (q+1) ((l.flatMap mD).take (q*3)++mD c)) ∧
 (L 23=true→Own W W0.heap.size 106 3 (y 23) (q+1+(l.length-q)) (((l.flatMap mD).take (q*3)++mD c)++(l.flatMap mD).drop (q*3)))
theorem fI {l:List Cc} {c:Cc}:∀L y W W',Below W.heap.size W W'→Ah W0 q l c L y W→Ah W0 q l c L y W':=
 fun _ _ _ _ hb ⟨h1,h2,h3,h4,h5,h6,h7,h8⟩=>⟨ae h1 hb,h2,h3,fun a b=>by
  obtain⟨g,e1,e2⟩:=h4 a b;exact⟨g,e1,e2.below hb⟩,fun a b=>(h5 a b).below hb,fun a b=>by
  obtain⟨x,e,e1,e2⟩:=h6 a b;exact⟨x,e,e1,e2.below hb⟩,fun a b=>(h7 a b).below hb,fun a=>(h8 a).below hb⟩
theorem VJ {l:List Cc} {c:Cc} (y:Nat→Value):Ah W0 q l c (fun _=>false) y W0:=by
 refine⟨Below.refl _ _,?_,?_,?_,?_,?_,?_,?_⟩<;>· intro h;cases h
theorem VN {l:List Cc} {c:Cc} (h:Ah W0 q l c L y W):Ah W0 q l c (cO L 1) (dG y 1 (.slice (some ⟨W.heap.size,0,none⟩) 0 0)) (W.alloc (.cells #[] 106)):=by
 obtain⟨h1,h2,h3,h4,h5,h6,h7,h8⟩:=fI _ _ _ _ ((Below.refl _ _).alloc (ay _) (.cells #[] 106)) h;exact⟨h1,h2,h3,fun _ _=>⟨_,rfl,Own.empty _ _ h.1.size⟩,h5,h6,h7,h8⟩
theorem VK {l:List Cc} {c:Cc} (h:Ah W0 q l c L y W) (hb:Below W.heap.size W W') (ho:Own W' W0.heap.size 106 3 v q ((l.flatMap mD).take (q*3))):Ah W0 q l c (cO L 9) (dG y 9 v) W':=by
 obtain⟨h1,h2,h3,h4,h5,h6,h7,h8⟩:=fI _ _ _ _ hb h;exact⟨h1,h2,fun _=>rfl,fun _ e=>(by cases e),fun _ _=>ho,h6,h7,h8⟩
theorem Uz {l:List Cc} {c:Cc} {e:Nat} (h:Ah W0 q l c L y W) (hb:Below W.heap.size W W') (ho:uk W' a e 1 (mD c)):Ah W0 q l c (cO L 14) (dG y 14 (.slice a 1 e)) W':=by
 obtain⟨h1,h2,h3,h4,h5,h6,h7,h8⟩:=fI _ _ _ _ hb h;exact⟨h1,h2,h3,h4,h5,fun _ _=>⟨a,e,rfl,ho⟩,h7,h8⟩
theorem Ub {l:List Cc} {c:Cc} (h:Ah W0 q l c L y W) (h15:L 15=false) (h9:L 9=true) (hg:W.grownBy W' (y 9).ownBlock) (ho:Own W' W0.heap.size 106 3 v (q+1) ((l.flatMap mD).take (q*3)++mD c)):Ah W0 q l c (cO L 15) (dG y 15 v) W':=by
 obtain⟨h1,h2,h3,h4,h5,h6,h7,h8⟩:=h;have a:L 23=true→False:=fun e=>by rw[h2 e] at h15;cases h15
 exact⟨h1.grown hg h1.size (fun k hk=>(h5 h9 h15).ge k hk),fun _=>rfl,fun _=>h9,fun _ e=>(by rw[show cO L 15 9=L 9 from rfl,h9] at e;cases e),fun _ e=>(by cases e),fun _ e=>(by cases e),fun _ _=>ho,fun e=>(a e).elim⟩
theorem UO {l:List Cc} {c:Cc} (h:Ah W0 q l c L y W) (h23:L 23=false) (h15:L 15=true) (hg:W.grownBy W' (y 15).ownBlock) (ho:Own W' W0.heap.size 106 3 v (q+1+(l.length-q)) (((l.flatMap mD).take (q*3)++mD c)++(l.flatMap mD).drop (q*3))):Ah W0 q l c (cO L 23) (dG y 23 v) W':=by
 obtain⟨h1,h2,h3,h4,h5,h6,h7,h8⟩:=h;exact⟨h1.grown hg h1.size (fun k hk=>(h7 h15 h23).ge k hk),fun _=>h15,h3,fun _ e=>(by rw[show cO L 23 9=L 9 from rfl,h3 h15] at e;cases e),fun _ e=>(by rw[show cO L 23 15=L 15 from rfl,h15] at e;cases e),fun _ e=>(by rw[show cO L 23 15=L 15 from rfl,h15] at e;cases e),fun _ e=>(by cases e),fun _=>ho⟩
structure Jj (S S' : MW):Prop where
 sp:S'.H.sp=S.H.sp
 fi:S'.H.fi=S.H.fi
 ct:S'.H.ct=S.H.ct
 dk:S'.H.dk=S.H.dk
 fl:S'.H.m.fs.length=S.H.m.fs.length
 sl:S'.H.sl.length=S.H.sl.length
theorem Jj.refl (S:MW):Jj S S:=⟨rfl,rfl,rfl,rfl,rfl,rfl⟩
theorem Jj.trans {a b c:MW} (h:Jj a b) (k:Jj b c):Jj a c:=⟨k.sp.trans h.sp,k.fi.trans h.fi,k.ct.trans h.ct,k.dk.trans h.dk,k.fl.trans h.fl,k.sl.trans h.sl⟩
theorem ed.rdM (h:ed w B b S):dP w (some ⟨b,1,none⟩) (dh S.H).toList:=bJ h.blk 1 11
theorem Bd.cas {T:List (List En)} (h:Bd m T):m.ca.length≤60:=Rf (m:=dU m T) h.rt.ca h.rt.pt.st
theorem Bd.fis {T:List (List En)} (h:Bd m T):∀f∈m.st.fs,f.b.length≤12:=Bc h.rt.pt.st
def Me (S:MW) (B b:Nat) (w:World) (ks:List (Nat × Array Value × TypeId)):(Nat→Bool)→(Nat→Value)→World→Prop:=fun _ _ W=>
 ∃a c l,ed W B b (S.lst a c l)∧MS w b S W (S.lst a c l)∧∀t∈ks,aB W t.1 t.2.1 t.2.2∧¬mP b S t.1
theorem aD {ks:List (Nat × Array Value × TypeId)}:∀L y W W',Below W.heap.size W W'→Me S B b w ks L y W→Me S B b w ks L y W':=
 fun _ _ _ _ hb ⟨a,c,l,h1,h2,h3⟩=>⟨a,c,l,h1.below hb,h2.below hb,fun t ht=>⟨(h3 t ht).1.ext hb,(h3 t ht).2⟩⟩
theorem zK {ks:List (Nat × Array Value × TypeId)} {y' : Value→Nat→Value} (n:Int) (hn : -9223372036854775808≤n∧n≤9223372036854775807) (h:Me S B b w ks L y W) {R:Value→World→Prop} (hR:∀x:Int,0≤x→x<256→(x<n∨x=0)→∀W',R (.int .i64 x) W') :
  Calls Tryz.prog 30 #[.pointer (some ⟨b,0,none⟩),.int .i64 n] W fun e W' => ∃v,e = .returned v∧Me S B b w ks L' (y' v) W'∧R v W':=by
 obtain⟨a,c,l,h1,h2,h3⟩:=h;refine (fB _ n B b W h1 hn).mono ?_;rintro r W' ⟨x,a',c',l',rfl,k1,k2,k3,_⟩;exact⟨_,rfl,⟨a',c',l',k1,h2.trans k2,fun t ht=>⟨k2.blkN (h3 t ht).1 (h3 t ht).2,(h3 t ht).2⟩⟩,hR x k3.1 k3.2.1 k3.2.2 W'⟩
theorem Te {ks:List (Nat × Array Value × TypeId)} {y' : Value→Nat→Value} (h:Me S B b w ks L y W) {R:Value→World→Prop} (hR:∀P W',R (.agg (iB P)) W') :
  Calls Tryz.prog 33 #[.pointer (some ⟨b,0,none⟩)] W fun e W' => ∃v,e = .returned v∧Me S B b w ks L' (y' v) W'∧R v W':=by
 obtain⟨a,c,l,h1,h2,h3⟩:=h;refine (xP _ B b W h1).mono ?_;rintro r W' ⟨P,a',c',l',rfl,k1,k2⟩;exact⟨_,rfl,⟨a',c',l',k1,h2.trans k2,fun t ht=>⟨k2.blkN (h3 t ht).1 (h3 t ht).2,(h3 t ht).2⟩⟩,hR P W'⟩
theorem QO {l:List Cc} {f i:Int} (hq:q≤l.length) (hno:∀d∈l.take q,Aw f i d=false) (hy:q=l.length∨∃c,l[q]?=some c∧Aw f i c=true):yR l f i=q:=by
 unfold yR;rcases hy with rfl|⟨c,hc,hg⟩
 ·rw[iN (ay _)] at hno;rw[Ad.2 fun d hd=>hno d hd];rfl
 obtain⟨hl,rfl⟩:=cK.1 hc;rw[vN.2 ⟨hl,hg,fun j hj=>by have:=hno (l[j]'(by omega)) (List.mem_take_iff_getElem.2 ⟨j,by omega,rfl⟩);rw[this];decide⟩];rfl
def Ur (S:MW) (f i:Int) (B b:Nat) (w:World) (r:Ending) (w' : World):Prop:=∃x S',r = .returned (.int .i64 x)∧ed w' B b S'∧MS w b S w' S'∧Jj S S'∧S'.T=S.T∧Bd S'.H.ma S'.T∧(x = -1∨∃c∈S'.H.ca,c.f=f∧c.i=i∧c.k=x)
theorem JK (S:MW) (f i:Int) (B b:Nat) (w:World) (h:ed w B b S) (hd:Bd S.H.ma S.T) (hi:vS S.H.ma.st f i) :
  Calls Tryz.prog 105 #[.pointer (some ⟨b,0,none⟩),.int .i64 f,.int .i64 i] w (Ur S f i B b w):=by
 have z7:S.H.ca.length≤60:=hd.cas;have k4:=Lib.hid h.bs;have gw:=h.lt;obtain⟨F,rfl⟩:=fE hi.1.1;obtain⟨I,rfl⟩:=fE hi.2.1;have kD:F<S.H.fi.length:=by have:=hi.1.2;simp[MH.ma,bY] at this;omega
 have gx:(F:Int)<(S.H.fi.length:Int):=by omega
 have hO:=GR hd.few.2.2.2.2.1 hi;have gy:(F:Int)<5:=hO.1;have gn:(I:Int)<12:=hO.2.1;obtain⟨N,hN⟩:∃N,(aK S.H.ma.st (F:Int)).n=N:=⟨_,rfl⟩;obtain⟨p,hp⟩:∃p,S.H.fi[F]?=some p:=⟨_,aH kD⟩;have ks:p.n=N:=by rw[←hN];have:aK S.H.ma.st (F:Int)=p.fi:=oz (by show (S.H.fi.map PF.fi)[F]?=_;rw[jO,hp];rfl);rw[this];rfl
 have kX:=Lib.hid hp;have kC:=Lib.hid hN;have kr:=Lib.hid ks;have hA:=Lib.hid hd;have ke:=Lib.hid hi;clear hd hi hp hN ks hO;go_enter func105,ntmps105;have hc:=h.blk.cell;unfold iV at hc;go_upto_region 2 with (fail);clear hc
 go_loopw [20] (fun k wr => ∃q:Nat,q≤S.H.ca.length∧k = .int .i64 q∧Below w.heap.size w wr∧Hid (∀d∈S.H.ca.take q,¬(d.f=(F:Int)∧d.i=(I:Int)))) (fun k _=>S.H.ca.length-(intOf k).toNat)
 case atStart=>exact⟨0,aV _,rfl,Below.refl _ _,Lib.hid (by simp)⟩
 case round=>
  obtain⟨q,hq,rfl,hJ,hX⟩:=hrel
  by_cases hql:q<S.H.ca.length
  ·obtain⟨bc,oc,hh,t⟩:=zW (h.ma.rd.below hJ).ca.rd q hql;obtain⟨c,hc⟩:∃c,S.H.ca[q]?=some c:=⟨_,aH hql⟩;rw[show S.H.ca[q]=c from (cK.1 hc).2] at t;have hH:(q:Int)<(S.H.ca.length:Int):=by omega
   have ky:=Lib.hid hc;clear hc;rw[hh]
   go_wp2_with (first | (refine ax _ _ rfl bc (oc+q*3) rfl rfl _ t _ underlying106 rfl cached_size ?_) | (refine aI rfl _ _ _ rfl (Ao c) rfl rfl rfl cached_size (vL c) ?_))
   intro w3 hK cx3;have hE:=ae hJ hK;have hD:=cx3.cell;have gu:=cx3.lt;clear hJ hK t;unfold Ao at hD
   by_cases hy:c.f=(F:Int)∧c.i=(I:Int)
   ·obtain⟨hU,kc⟩:=hy;rw[hU,kc] at hD;go_wp2;go_ret;exact⟨c.k,S,rfl,h.below hE,(MS.refl w b S).below hE,.refl _,rfl,hA.out,.inr ⟨c,bO ky.out,hU,kc,rfl⟩⟩
   have h0 : Hid (∀d∈S.H.ca.take (q+1),¬(d.f=(F:Int)∧d.i=(I:Int))):=Lib.hid fun d hd=>by
    rw[take_at ky.out] at hd;rcases fO.1 hd with hd|hd
    ·exact hX.out d hd
    ·rw[bv.1 hd];exact hy
   by_cases hU:c.f=(F:Int)
   ·have kc:¬c.i=(I:Int):=fun e=>hy ⟨hU,e⟩;clear hy;go_wp2;go_roundw
    case rel=>exact⟨q+1,by omega,by go_num,hE,h0⟩
    case measure=>simp[intOf];omega
   clear hy;go_wp2;go_roundw
   case rel=>exact⟨q+1,by omega,by go_num,hE,h0⟩
   case measure=>simp[intOf];omega
  have hH:¬(q:Int)<(S.H.ca.length:Int):=by omega
  rw[iN (by omega)] at hX;have h1:=h.below hJ;have s1:=(MS.refl w b S).below hJ;have gt:=Lib.hid (h1.new (ay _));have hc:=h1.blk.cell;unfold iV at hc
  go_wp2_with (refine ax _ _ rfl b 1 rfl rfl _ h1.rdM _ underlying41 rfl machine_size ?_)
  refine (Ae S.H F I _ h1.ma.rd ⟨by omega,fun f hf=>bi (hA.out.fis f hf) (by decide)⟩ (fun c hc=>hA.out.rt.ca.lt c hc) (by have:=ke.out.1;simpa[MH.ma,bY] using this) ke.out.2).mono ?_;rintro r w2 ⟨rfl,kk⟩;have hP:Hid (fu (bA S.H.ma F I) (N-(I:Int)*8)=bA S.H.ma F I∧bA S.H.ma F I=fV S.H.ma F I):=Lib.hid (by
   have e:bA S.H.ma F I=fV S.H.ma F I:=by unfold bA fV;rw[show S.H.ma.ca.find? (fun c=>decide (c.f=(F:Int))&&decide (c.i=(I:Int)))=none from Ey hX.out]
   exact⟨by rw[e,←kC.out];exact Pp _ _ _,e⟩)
  generalize bA S.H.ma F I=P at hP;have h2:=h1.below kk;have s2:=s1.below kk;clear h1 s1 hc kk h hJ
  go_wp2_with (refine aI rfl _ _ _ rfl (iB P) rfl rfl rfl psize (jy P) ?_)
  intro w3 hK px3;have h3:=h2.below hK;have s3:=s2.below hK;have hL:=Lib.hid (h2.new (ay _));have kd:=Lib.hid s2.size;have kW:w2.heap.size<w3.heap.size:=px3.lt;have kt:B≤w2.heap.size:=bi k4.out kd.out;clear h2 s2 hK;generalize hp4:w2.heap.size=p4 at *
  clear hp4
  go_wp2_with fail
  refine (fB _ 2 B b _ h3 (by omega)).mono ?_;rintro r w4 ⟨x,a4,c4,l4,rfl,h4,s4,hx,_⟩;have px4:=s4.blkN px3 hL.out;have s4:=s3.trans s4;clear h3 s3 px3 hx kW;go_upto_if 46 with (fail)
  go_cut [10] (fun s10 wx => ∃(d:Bool) (a:Option Addr) (c:Nat) (l:List UInt8) (P:Page),s10 = .bool d∧ed wx B b (S.lst a c l)∧MS w b S wx (S.lst a c l)∧aB wx p4 (iB P) 79∧Hid (fu P (N-(I:Int)*8)=P∧(d=false→P=fV S.H.ma F I)))
  case first=>
   by_cases hx1:x=1
   ·subst hx1
    go_wp2_with fail
    refine (xP _ B b _ h4).mono ?_;rintro r w5 ⟨P2,a5,c5,l5,rfl,h5,s5⟩;rw[nQ] at h5 s5;have px5:=s5.blkN px4 hL.out;have s5:=s4.trans s5;clear h4 s4 px4 hP
    go_wp2_with (refine az rfl _ _ _ rfl p4 (iB P2) rfl rfl _ _ px5 rfl psize (jy _) ?_)
    intro w6 px6 kg;have h6:=h5.locT px5 (by decide) hL.out kt kg;have s6:=s5.loc kg kd.out;clear h5 s5 px5 kg;go_upto_region 11 with (fail)
    go_loopw [49] (fun j wr => ∃k:Nat,k≤8∧j = .int .i64 k∧ed wr B b (S.lst a5 c5 l5)∧MS w b S wr (S.lst a5 c5 l5)∧aB wr p4 (iB (iR P2 (N-(I:Int)*8) k)) 79) (fun j _=>8-(intOf j).toNat)
    case atStart=>exact⟨0,by omega,rfl,h6,s6,by rw[show iR P2 (N-(I:Int)*8) 0=P2 from by ext j hj;simp[iR]];exact px6⟩
    case round=>
     clear h6 s6 px6;obtain⟨k,hk,rfl,hm,hs,px⟩:=hrel
     by_cases hk8:k<8
     ·have kZ:(k:Int)<8:=by omega
      have hD:=hm.blk.cell;unfold iV at hD;dsimp only[MW.lst] at hD;obtain⟨bf,of,kl,t⟩:=jX jL (by decide) hm.ma.rd.st.rd F kD;dsimp only[MW.lst] at kl t;rw[show S.H.fi[F]=p from (cK.1 kX.out).2] at t;rw[kl] at hD;have rc0:wr.cell? ⟨bf,of+F*2,none⟩=some (.int .i64 N):=by rw[←kr.out];obtain⟨b',o',e,hS⟩:=t 0 _ rfl;cases e;exact hS
      clear t kl;have gs:IntKind.i64.wrap (8*(I:Int))=8*(I:Int):=bM _ (by omega);have gr:IntKind.i64.wrap (8*(I:Int)+(k:Int))=8*(I:Int)+(k:Int):=bM _ (by omega)
      by_cases hge:N≤8*(I:Int)+k
      ·have hr:Hid ((iB (iR P2 (N-(I:Int)*8) k)).setIfInBounds k (.int .u8 0)=iB (iR P2 (N-(I:Int)*8) (k+1))):=Lib.hid (by rw[←AR P2 _ k hk8 (by omega)];exact Cx _ k hk8 0);generalize hT:iR P2 (N-(I:Int)*8) k=T at px hr;clear hT
       go_wp2_with (refine aA rfl _ _ _ rfl p4 k _ [.int .u8 0] rfl rfl rfl _ _ px (by show k+1≤8;omega) (by kernel_rfl) (fun u hu=>by cases bv.1 hu;rfl) ?_)
       intro w7 px7 kf;rw[Pw.putAt_one,hr.out] at px7;have kY:=hm.locT px (by decide) hL.out kt kf;have kV:=hs.loc kf kd.out;clear hm hs px kf hD rc0;go_wp2;go_roundw
       case rel=>exact⟨k+1,by omega,by go_num,kY,kV,px7⟩
       case measure=>simp[intOf];omega
      have hr:iR P2 (N-(I:Int)*8) k=iR P2 (N-(I:Int)*8) (k+1):=by
       ext j hj
       simp only[iR,rR]
       by_cases e:N-(I:Int)*8≤(j:Int)
       ·rw[if_neg (by omega),if_neg (by omega)]
       ·rw[if_neg (by omega),if_neg (by omega)]
      rw[hr] at px;clear hr;go_wp2;go_roundw
      case rel=>exact⟨k+1,by omega,by go_num,hm,hs,px⟩
      case measure=>simp[intOf];omega
     have kZ:¬(k:Int)<8:=by omega
     rw[Ba _ _ k (by omega)] at px;have hC:Hid (fu (fu P2 (N-(I:Int)*8)) (N-(I:Int)*8)=fu P2 (N-(I:Int)*8)):=Lib.hid (NB _ _);generalize fu P2 (N-(I:Int)*8)=C at px hC;go_wp2;go_meet
     case rel=>exact⟨true,a5,c5,l5,C,rfl,hm,hs,px,Lib.hid ⟨hC.out,fun h=>(by cases h)⟩⟩
   go_wp2;go_meet
   case rel=>exact⟨false,a4,c4,l4,P,rfl,h4,s4,px4,Lib.hid ⟨hP.out.1,fun _=>hP.out.2⟩⟩
  case rest=>
   obtain⟨d,a5,c5,l5,P2,rfl,h5,s5,px5,kB⟩:=hcut;clear h4 s4 px4 hP;go_upto_region 16 with (fail);refine gN 9 [.v (.pointer (some ⟨b,0,none⟩)),.v (.agg (iB P2)),_,.r 3 ((bW fun v => ∃x:Int,v = .int .i64 x∧0≤x)),.r 4 ((bW fun v => ∃u,v = .bool u)),_,_,_,.r 8 ((bW fun v => ∃u,v = .agg (vW ⟨P2,1,u,d,(F:Int),(I:Int)⟩)))] (Me S B b w [(p4,iB P2,79)]) aD (fun _=>⟨a5,c5,l5,h5,s5,by simpa using ⟨px5,hL.out⟩⟩) (Qk aD rfl (ag ?_ (Qk aD rfl (ag ?_ (ag ?_ (Qk aD rfl (Qk aD rfl (Qk aD rfl (ag ?_ (aC)))))))))) (fun _=>rfl) rfl ?_
   ·intro ρ y W L hw hn o s hb hd;refine eD aD (fun _ _ h=>h) hb ?_;have E9:ρ (.tmp 9) = .pointer (some ⟨p4,0,none⟩):=(hn (.tmp 9) rfl).trans rfl;obtain⟨a,c,l,m1,m2,m3⟩:=hb;have m3:=(m3 _ (bv.2 rfl)).1;refine aj (.agg (iB P2)) (ah rfl) (dL rfl E9 m3 underlying79 rfl psize) rfl
   ·intro ρ y W L hw hn o s hb hd;have gi:=hw 72 2 rfl;have h2:y 2=_:=hd 2 rfl;have EC:∀v,ρ (.const v)=v:=fun v=>hn (.const v) trivial;have EF:∀f,ρ (.func f) = .func (.func f) #[] #[]:=fun f=>hn (.func f) trivial;refine gU _ _ (ah rfl) (aU rfl (EF _) func30 (by kernel_rfl) (by kernel_rfl) (by simp only[bV,bP,bT,gi,h2,EC,EF];rfl)) ?_;exact zK 2 (by omega) hb fun x h1 _ _ _=>⟨x,rfl,h1⟩
   ·intro ρ y W L hw hn o s hb hd;refine eD aD (fun _ _ h=>h) hb ?_;have gh:=hw 73 3 rfl;have h3:=hd 3 rfl;obtain⟨x,hx,_⟩:=h3;refine aj _ (ah rfl) (pF rfl (gh.trans hx) (hn (.const _) trivial) (by simp[go_sem];rfl)) ⟨_,rfl⟩
   ·intro ρ y W L hw hn o s hb hd;refine eD aD (fun _ _ h=>h) hb ?_;have gj:=hw 71 1 rfl;have h1:y 1=_:=hd 1 rfl;have gg:=hw 74 4 rfl;have h4:=hd 4 rfl;have gf:=hw 75 5 rfl;have h5:y 5=_:=hd 5 rfl;have ge:=hw 76 6 rfl;have h6:y 6=_:=hd 6 rfl;have gd:=hw 77 7 rfl;have h7:y 7=_:=hd 7 rfl;obtain⟨u,hu⟩:=h4;have EC:∀v,ρ (.const v)=v:=fun v=>hn (.const v) trivial;refine aj (.agg (vW ⟨P2,1,u,d,(F:Int),(I:Int)⟩)) (ah rfl) (by simp[execOp,go_sem,gj,h1,gg,gf,h5,ge,h6,gd,h7,EC,hu,iB,vW]) ⟨_,rfl⟩
   intro y W5 kz hG;have gq:((bW fun v => ∃x:Int,v = .int .i64 x∧0≤x)).r (y 3) W5:=hG 3 (by decide);have gp:((bW fun v => ∃u,v = .bool u)).r (y 4) W5:=hG 4 (by decide);have kS:((bW fun v => ∃u,v = .agg (vW ⟨P2,1,u,d,(F:Int),(I:Int)⟩))).r (y 8) W5:=hG 8 (by decide);clear hG;obtain⟨a6,c6,l6,h6,s6,px6⟩:=kz;have px6:=(px6 _ (bv.2 rfl)).1;obtain⟨u,hu⟩:=kS;rw[hu];clear hu h5 s5 px5
   go_wp2_with fail
   refine (DC _ _ B b _ h6 (by have:=hA.out.few.1;show S.H.m.fs.length≤1000;have e:S.H.ma.m.fs.length=S.H.m.fs.length:=rfl;omega)).mono ?_;rintro r w7 ⟨x7,a7,c7,l7,fs,rfl,h7,s7,kT⟩;rw[nQ] at h7 s7;have s7:=s6.trans s7;clear h6 s6 px6;rcases kT with ⟨rfl,rfl⟩|⟨j,rfl,hj,hjr,rfl⟩
   ·go_wp2;go_ret;exact⟨-1,_,rfl,h7,s7,⟨rfl,rfl,rfl,rfl,rfl,rfl⟩,rfl,hA.out,.inl rfl⟩
   have k0 : j<S.H.m.fs.length:=hj;have kw:=Lib.hid hjr;have gv:(0:Int)≤(j:Int):=by omega
   clear hj hjr;go_upto_region 20 with (fail)
   go_loopw [13] (fun k wr => ∃q:Nat,q≤S.H.ca.length∧k = .int .i64 q∧Below w7.heap.size w7 wr∧Hid (∀d∈S.H.ca.take q,Aw F I d=false)) (fun k _=>S.H.ca.length-(intOf k).toNat)
   case atStart=>exact⟨0,aV _,rfl,Below.refl _ _,Lib.hid (by simp)⟩
   case round=>
    obtain⟨q,hq,rfl,kj,hz⟩:=hrel;have ha:=h7.below kj;have kn:IntKind.i64.wrap (100*(F:Int))=100*(F:Int):=bM _ (by omega);have km:IntKind.i64.wrap (100*(F:Int)+(I:Int))=100*(F:Int)+(I:Int):=bM _ (by omega)
    by_cases hql:q<S.H.ca.length
    case' neg=>
     have hH:¬(q:Int)<(S.H.ca.length:Int):=by omega
     go_upto_region 20 with (fail);refine aM 35 [_,_,_,_,_,_,_,_,_,_,_,_,_,_,_,_,_,_,_,_,_,_,_,_,_,_,_,_,_,_,_,_,_,_,.v (.bool false)] (Gk rfl (Gk rfl (Gk rfl (Gf b 1 rfl rfl (Gf b 10 rfl rfl (Gl ha.blk (V:=.slice S.H.ac S.H.ca.length S.H.cc) (by simp[iV,MW.frs,MW.lst]) rfl rfl rfl rfl (Gn rfl rfl rfl rfl (Gb (.bool false) (by simp[go_sem,hH,hql]) rfl rfl rfl rfl rfl (Gk rfl (Gk rfl (Gk rfl (Gk rfl (Gk rfl (Gk rfl (Gk rfl (Gk rfl (Gk rfl (Gk rfl (Gk rfl (Gk rfl (Gk rfl (Gk rfl (Gk rfl (Gk rfl (Gk rfl (Gk rfl (Gk rfl (Gk rfl (Gk rfl (Gk rfl (Gk rfl (Gk rfl (Gk rfl (Gk rfl (Gk rfl (aC)))))))))))))))))))))))))))))))))))) (fun _=>rfl) rfl ?_;intro y W8 hl _;have kA:Hid (yR S.H.ca F I=q):=Lib.hid (QO hq hz.out (.inl (by omega)))
    case' pos=>
     obtain⟨bc,oc,hh,t⟩:=zW ha.ma.rd.ca.rd q hql;have hh:S.H.ac=some ⟨bc,oc,none⟩:=hh;obtain⟨c,hc⟩:∃c,S.H.ca[q]?=some c:=⟨_,aH hql⟩;have t:dP wr (some ⟨bc,oc+q*3,none⟩) (mD c):=by rw[←(cK.1 hc).2];exact t
     have hH:(q:Int)<(S.H.ca.length:Int):=by omega
     have kh:=hA.out.rt.ca.file c (bO hc);have gl:=GR hA.out.few.2.2.2.2.1 kh;have gm:0≤c.f∧0≤c.i:=⟨kh.1.1,kh.2.1⟩;have kp:IntKind.i64.wrap (100*c.f)=100*c.f:=bM _ (by omega);have ko:IntKind.i64.wrap (100*c.f+c.i)=100*c.f+c.i:=bM _ (by omega);have hW:∀W,Below wr.heap.size wr W→W.cell? ⟨bc,oc+q*3,none⟩=some (.int .i64 c.f):=fun W hb=>by obtain⟨b',o',e,hS⟩:=(t.below hb) 0 _ rfl;cases e;exact hS
     have hV:∀W,Below wr.heap.size wr W→W.cell? ⟨bc,oc+q*3+1,none⟩=some (.int .i64 c.i):=fun W hb=>by obtain⟨b',o',e,hS⟩:=(t.below hb) 1 _ rfl;cases e;exact hS
     have hY:Hid (Aw F I c=true↔¬100*c.f+c.i<100*(F:Int)+(I:Int)):=Lib.hid (by rw[xB];omega)
     by_cases hlt:100*c.f+c.i<100*(F:Int)+(I:Int)
     case pos=>
      go_upto_region 20 with (fail);refine aM 35 [_,_,_,_,_,_,_,_,_,_,_,_,_,_,_,_,_,_,_,_,_,_,_,_,_,_,_,_,_,_,_,_,_,_,.v (.bool true)] (Gk rfl (Gk rfl (Gk rfl (Gf b 1 rfl rfl (Gf b 10 rfl rfl (Gl ha.blk (V:=.slice S.H.ac S.H.ca.length S.H.cc) (by simp[iV,MW.frs,MW.lst]) rfl rfl rfl rfl (Gn rfl rfl rfl rfl (Gb (.bool true) (by simp[go_sem,hH,hql]) rfl rfl rfl rfl rfl (Gk rfl (Gk rfl (Gk rfl (Gf b 1 rfl rfl (Gf b 10 rfl rfl (Gl ha.blk (V:=.slice (some ⟨bc,oc,none⟩) S.H.ca.length S.H.cc) (by simp[iV,MW.frs,MW.lst,hh]) rfl rfl rfl rfl (Gk rfl (Gr (.pointer (some ⟨bc,oc+q*3,none⟩)) (fun ρ y W hb z=>(bF rfl (aF rfl z) (aF rfl z) hql underlying38 cached_size)) rfl rfl (Gf bc (oc+q*3) rfl rfl (Gc (.int .i64 c.f) (fun W hb=>by simp[hW _ hb]) rfl rfl rfl rfl (Gb (.int .i64 (100*c.f)) (by simp[go_sem,kp]) rfl rfl rfl rfl rfl (Gk rfl (Gk rfl (Gf b 1 rfl rfl (Gf b 10 rfl rfl (Gl ha.blk (V:=.slice (some ⟨bc,oc,none⟩) S.H.ca.length S.H.cc) (by simp[iV,MW.frs,MW.lst,hh]) rfl rfl rfl rfl (Gk rfl (Gr (.pointer (some ⟨bc,oc+q*3,none⟩)) (fun ρ y W hb z=>(bF rfl (aF rfl z) (aF rfl z) hql underlying38 cached_size)) rfl rfl (Gf bc (oc+q*3+1) rfl rfl (Gc (.int .i64 c.i) (fun W hb=>by simp[hV _ hb]) rfl rfl rfl rfl (Gb (.int .i64 (100*c.f+c.i)) (by simp[go_sem,ko]) rfl rfl rfl rfl rfl (Gk rfl (Gb (.int .i64 (100*(F:Int))) (by simp[go_sem,kn]) rfl rfl rfl rfl rfl (Gk rfl (Gb (.int .i64 (100*(F:Int)+(I:Int))) (by simp[go_sem,km]) rfl rfl rfl rfl rfl (Gb (.bool true) (by simp[go_sem,hlt]) rfl rfl rfl rfl rfl (Gk rfl (aC)))))))))))))))))))))))))))))))))))) (fun _=>rfl) rfl ?_;intro y W8 hl _;have ku:Hid (∀d∈S.H.ca.take (q+1),Aw F I d=false):=Lib.hid fun d hd=>by
       rw[take_at hc] at hd;rcases fO.1 hd with hd|hd
       ·exact hz.out d hd
       rw[bv.1 hd];cases hg:Aw F I c with
       | false=>rfl
       | true=>exact absurd hlt (hY.out.1 hg)
      have hZ:=ae kj hl;clear hl hc hh t hW hV hY hz ha;go_wp2;go_roundw
      case rel=>exact⟨q+1,by omega,by go_num,hZ,ku⟩
      case measure=>simp[intOf];omega
     go_upto_region 20 with (fail);refine aM 35 [_,_,_,_,_,_,_,_,_,_,_,_,_,_,_,_,_,_,_,_,_,_,_,_,_,_,_,_,_,_,_,_,_,_,.v (.bool false)] (Gk rfl (Gk rfl (Gk rfl (Gf b 1 rfl rfl (Gf b 10 rfl rfl (Gl ha.blk (V:=.slice S.H.ac S.H.ca.length S.H.cc) (by simp[iV,MW.frs,MW.lst]) rfl rfl rfl rfl (Gn rfl rfl rfl rfl (Gb (.bool true) (by simp[go_sem,hH,hql]) rfl rfl rfl rfl rfl (Gk rfl (Gk rfl (Gk rfl (Gf b 1 rfl rfl (Gf b 10 rfl rfl (Gl ha.blk (V:=.slice (some ⟨bc,oc,none⟩) S.H.ca.length S.H.cc) (by simp[iV,MW.frs,MW.lst,hh]) rfl rfl rfl rfl (Gk rfl (Gr (.pointer (some ⟨bc,oc+q*3,none⟩)) (fun ρ y W hb z=>(bF rfl (aF rfl z) (aF rfl z) hql underlying38 cached_size)) rfl rfl (Gf bc (oc+q*3) rfl rfl (Gc (.int .i64 c.f) (fun W hb=>by simp[hW _ hb]) rfl rfl rfl rfl (Gb (.int .i64 (100*c.f)) (by simp[go_sem,kp]) rfl rfl rfl rfl rfl (Gk rfl (Gk rfl (Gf b 1 rfl rfl (Gf b 10 rfl rfl (Gl ha.blk (V:=.slice (some ⟨bc,oc,none⟩) S.H.ca.length S.H.cc) (by simp[iV,MW.frs,MW.lst,hh]) rfl rfl rfl rfl (Gk rfl (Gr (.pointer (some ⟨bc,oc+q*3,none⟩)) (fun ρ y W hb z=>(bF rfl (aF rfl z) (aF rfl z) hql underlying38 cached_size)) rfl rfl (Gf bc (oc+q*3+1) rfl rfl (Gc (.int .i64 c.i) (fun W hb=>by simp[hV _ hb]) rfl rfl rfl rfl (Gb (.int .i64 (100*c.f+c.i)) (by simp[go_sem,ko]) rfl rfl rfl rfl rfl (Gk rfl (Gb (.int .i64 (100*(F:Int))) (by simp[go_sem,kn]) rfl rfl rfl rfl rfl (Gk rfl (Gb (.int .i64 (100*(F:Int)+(I:Int))) (by simp[go_sem,km]) rfl rfl rfl rfl rfl (Gb (.bool false) (by simp[go_sem,hlt]) rfl rfl rfl rfl rfl (Gk rfl (aC)))))))))))))))))))))))))))))))))))) (fun _=>rfl) rfl ?_;intro y W8 hl _;have kA:Hid (yR S.H.ca F I=q):=Lib.hid (QO hq hz.out (.inr ⟨c,hc,hY.out.2 hlt⟩));clear hc hh t hW hV hY
    all_goals
     have hZ:=ae kj hl;have hI:=h7.below hZ;have s9:=s7.below hZ;clear hl ha hz;go_upto_region 22 with (fail);have sC:uk W8 S.H.ac S.H.cc S.H.ca.length (S.H.ca.flatMap mD):=hI.ma.rd.ca;have sT:=sC.take (sz:=3) hq;have k3:S.H.ca.length≤60:=z7;have tlen:((S.H.ca.flatMap mD).take (q*3)).length=q*3:=by rw[lC,mQ];omega
     have dlen:((S.H.ca.flatMap mD).drop (q*3)).length=(S.H.ca.length-q)*3:=by rw[List.length_drop,mQ];omega
     refine gN 27 [_,.r 1 ((bW fun _=>True)),_,_,_,_,.v (.slice S.H.ac S.H.ca.length S.H.cc),_,_,.r 9 ((bW fun _=>True)),_,_,_,.v (.agg #[.int .i64 (F:Int),.int .i64 (I:Int),.int .i64 (j:Int)]),.r 14 ((bW fun _=>True)),.r 15 ((bW fun _=>True)),_,_,_,_,.v (.slice S.H.ac S.H.ca.length S.H.cc),_,.r 22 ((bW fun v => ∃a e,v = .slice a (S.H.ca.length-q) e∧uk W8 a e (S.H.ca.length-q) ((S.H.ca.flatMap mD).drop (q*3)))),.r 23 ((bW fun _=>True)),_,_,_] (Ah W8 q S.H.ca ⟨(F:Int),(I:Int),(j:Int)⟩) fI (fun y=>VJ y) (Qk fI rfl (ag ?_ (Qk fI rfl (Qk fI rfl (Qf fI b 1 rfl rfl (Qf fI b 10 rfl rfl (ag ?_ (Qk fI rfl (Qr fI (.slice S.H.ac q S.H.cc) (fun ρ y W z=>(SF (W0:=W8) rfl (aF rfl z) (aF rfl z) hq underlying38 cached_size sC).1) rfl rfl (ag ?_ (Qk fI rfl (Qk fI rfl (Qk fI rfl (ag ?_ (ag ?_ (ag ?_ (Qk fI rfl (Qk fI rfl (Qf fI b 1 rfl rfl (Qf fI b 10 rfl rfl (ag ?_ (Qk fI rfl (ag ?_ (ag ?_ (Qk fI rfl (Qf fI b 1 rfl rfl (Qf fI b 10 rfl rfl (aC)))))))))))))))))))))))))))) (fun _=>rfl) rfl ?_
     ·intro ρ y W L hw hn o s hb hd;refine eP (.slice (some ⟨W.heap.size,0,none⟩) 0 0) (ah rfl) ?_ (VN hb) trivial;simp[execOp,go_sem]
     ·intro ρ y W L hw hn o s hb hd;refine eD fI (fun _ _ h=>h) hb ?_;have kQ:=hw 124 5 rfl;have h5:y 5=_:=hd 5 rfl;refine aj (.slice S.H.ac S.H.ca.length S.H.cc) (ah rfl) (by simp[execOp,go_sem,kQ,h5,(hI.below hb.1).blk.cell,iV,MW.frs,MW.lst]) rfl
     ·intro ρ y W L hw hn o s hb hd;have kR:=hw 120 1 rfl;have h1:=hd 1 rfl;have kP:=hw 127 8 rfl;have h8:y 8=_:=hd 8 rfl;obtain⟨g,k2,k1⟩:=hb.2.2.2.1 (s 1 rfl) o;refine kU (ah rfl) (KH _ _ _ rfl W8.heap.size 106 (.agg #[.int .i64 0,.int .i64 0,.int .i64 0]) 3 24 underlying38 cached_info rfl (by decide) g (kR.trans k2) k1 S.H.ac q S.H.cc _ (kP.trans h8) sT.nl sT.le tlen (sT.below hb.1).rd (by unfold maxLen;omega) (by omega) hb.1.size) (fun v W1 h=>VK hb h.1 h.2) (fun _ _ _=>trivial)
     ·intro ρ y W L hw hn o s hb hd;refine eD fI (fun _ _ h=>h) hb ?_;have kN:=hw 129 10 rfl;have gc:y 10=_:=hd 10 rfl;have kM:=hw 130 11 rfl;have gb:y 11=_:=hd 11 rfl;have kL:=hw 131 12 rfl;have ga:y 12=_:=hd 12 rfl;refine aj (.agg #[.int .i64 (F:Int),.int .i64 (I:Int),.int .i64 (j:Int)]) (ah rfl) (by simp[execOp,go_sem,kN,gc,kM,gb,kL,ga]) rfl
     ·intro ρ y W L hw hn o s hb hd;have kK:=hw 132 13 rfl;have k9:y 13=_:=hd 13 rfl;refine eP (.slice (some ⟨W.heap.size,0,none⟩) 1 1) (ah rfl) ?_ (Uz (W':=W.alloc (.cells (Ao ⟨(F:Int),(I:Int),(j:Int)⟩) 106)) hb ((Below.refl _ _).alloc (ay _) _) ⟨ay _,by unfold maxLen;omega,fun e=>(by cases e),dP.new _ _ _⟩) trivial;simp[execOp,go_sem,kK.trans k9,Ao]
     ·intro ρ y W L hw hn o s hb hd;have kO:=hw 128 9 rfl;have h9:=hd 9 rfl;have kJ:=hw 133 14 rfl;have gA:=hd 14 rfl;obtain⟨a,e,hx1,hB⟩:=hb.2.2.2.2.2.1 (s 14 rfl) o;have hv:=hb.2.2.2.2.1 (s 9 rfl) o;refine kU (ah rfl) (pG _ _ _ rfl W8.heap.size 106 (.agg #[.int .i64 0,.int .i64 0,.int .i64 0]) 3 24 underlying38 cached_info rfl (by decide) (y 9) q _ kO hv a 1 e _ (kJ.trans hx1) hB.nl hB.le rfl hB.rd (ND _) (by unfold maxLen;omega) (by omega) hb.1.size) (fun v W1 h=>Ub hb o (s 9 rfl) h.2.1 h.1) (fun _ _ _=>trivial)
     ·intro ρ y W L hw hn o s hb hd;refine eD fI (fun _ _ h=>h) hb ?_;have kH:=hw 138 19 rfl;have k8:y 19=_:=hd 19 rfl;refine aj (.slice S.H.ac S.H.ca.length S.H.cc) (ah rfl) (by simp[execOp,go_sem,kH,k8,(hI.below hb.1).blk.cell,iV,MW.frs,MW.lst]) rfl
     ·intro ρ y W L hw hn o s hb hd;refine eD fI (fun _ _ h=>h) hb ?_;have kG:=hw 139 20 rfl;have k7:y 20=_:=hd 20 rfl;have kF:=hw 140 21 rfl;have k6:y 21=_:=hd 21 rfl;exact Ru (ah rfl) (QS (W0:=W8) rfl (kG.trans k7) (kF.trans k6) hq underlying38 cached_size (mQ _) sC) (fun _ h=>h)
     ·intro ρ y W L hw hn o s hb hd;have kI:=hw 134 15 rfl;have gz:=hd 15 rfl;have kE:=hw 141 22 rfl;have k5:=hd 22 rfl;obtain⟨a,e,hx1,hB⟩:=k5;have hv:=hb.2.2.2.2.2.2.1 (s 15 rfl) o;refine kU (ah rfl) (pG _ _ _ rfl W8.heap.size 106 (.agg #[.int .i64 0,.int .i64 0,.int .i64 0]) 3 24 underlying38 cached_info rfl (by decide) (y 15) (q+1) _ kI hv a (S.H.ca.length-q) e _ (kE.trans hx1) hB.nl hB.le dlen (hB.below hb.1).rd (fun u hu=>Hd _ u (List.mem_of_mem_drop hu)) (by unfold maxLen;omega) (by omega) hb.1.size) (fun v W1 h=>UO hb o (s 15 rfl) h.2.1 h.1) (fun _ _ _=>trivial)
     intro y W9 hF kb;have gk:((bW fun v => ∃a e,v = .slice a (S.H.ca.length-q) e∧uk W8 a e (S.H.ca.length-q) ((S.H.ca.flatMap mD).drop (q*3)))).r (y 22) W9:=kb 22 (by decide);clear kb;have ht:=hF.2.2.2.2.2.2.2 rfl;have hM:=hI.below hF.1;have s10:=s9.below hF.1;rw[JA _ _ _ hq] at ht;have hQ:Hid ((S.H.ca.insertIdx q (⟨(F:Int),(I:Int),(j:Int)⟩:Cc)).length=q+1+(S.H.ca.length-q)):=Lib.hid (by rw[List.length_insertIdx_of_le_length hq];omega);obtain⟨a9,c9,kq,_⟩:=ht.rd;rw[kq] at ht ⊢;have kx:Hid (∀x,oB a9=some x→w.heap.size≤x):=Lib.hid fun x hx=>bi s9.size (iQ ht hx).1;have ht:=ht.mono (bi hI.bs (ay _));clear kq hF hI s9 sT sC tlen dlen h7 s7
     go_wp2_with (refine aA rfl _ _ _ rfl b 10 _ [.slice a9 (q+1+(S.H.ca.length-q)) c9] rfl rfl rfl _ _ hM.blk (by show 10+1≤13;omega) (by kernel_rfl) (fun u hu=>by cases bv.1 hu;rfl) ?_)
     intro w11 ka hR;have kv:=hM.setC (l:=S.H.ca.insertIdx q ⟨(F:Int),(I:Int),(j:Int)⟩) (by rw[hQ.out];exact ht) (by rw[hQ.out];exact ka) hR;have s12:=s10.put (H':=_) hR (.inl rfl) (fun x (hx:mP b { ((S.lst a7 c7 l7).frs (S.H.m.fs.set j ⟨P2,1,u,d,(F:Int),(I:Int)⟩)) with H:={ ((S.lst a7 c7 l7).frs (S.H.m.fs.set j ⟨P2,1,u,d,(F:Int),(I:Int)⟩)).H with ac:=a9,cc:=c9,ca:=S.H.ca.insertIdx q ⟨(F:Int),(I:Int),(j:Int)⟩ } } x)=>by
      rcases hx with hx|hx
      ·exact .inl (.inl hx)
      simp only[gZ,bZ,fP,or_false] at hx;rcases hx with hx|hx|hx|hx|hx|hx|hx|hx|hx
      ·exact .inl (.inr (by simp only[gZ,bZ,fP,or_false];exact .inl hx))
      ·exact .inl (.inr (by simp only[gZ,bZ,fP,or_false];exact .inr (.inl hx)))
      ·exact .inl (.inr (by simp only[gZ,bZ,fP,or_false];exact .inr (.inr (.inl hx))))
      ·exact .inl (.inr (by simp only[gZ,bZ,fP,or_false];exact .inr (.inr (.inr (.inl hx)))))
      ·exact .inl (.inr (by simp only[gZ,bZ,fP,or_false];exact .inr (.inr (.inr (.inr (.inl hx))))))
      ·exact .inl (.inr (by simp only[gZ,bZ,fP,or_false];exact .inr (.inr (.inr (.inr (.inr (.inl hx)))))))
      ·exact .inr (kx.out x hx.symm)
      ·exact .inl (.inr (by simp only[gZ,bZ,fP,or_false];exact .inr (.inr (.inr (.inr (.inr (.inr (.inr (.inl hx)))))))))
      ·exact .inl (.inr (by simp only[gZ,bZ,fP,or_false];exact .inr (.inr (.inr (.inr (.inr (.inr (.inr (.inr hx))))))))))
     clear hM s10 ka hR ht;go_wp2;go_ret;have ki:=hA.out.cache (X:=⟨P2,1,u,d,(F:Int),(I:Int)⟩) ke.out hX.out k0 kw.out ⟨rfl,rfl,rfl⟩ (by rw[kC.out];exact kB.out.1) kB.out.2;refine⟨j,_,rfl,kv,s12,⟨rfl,rfl,rfl,rfl,bH,rfl⟩,rfl,?_,.inr ⟨⟨(F:Int),(I:Int),(j:Int)⟩,(GL hq).2 (.inl rfl),rfl,rfl,rfl⟩⟩;unfold Aj at ki;rw[show yR S.H.ma.ca F I=q from kA.out] at ki;exact ki
theorem ents_size:(Tryz.prog.info? 90).map (·.size)=some 192:=by kernel_rfl
theorem FL {o d:Nat} (hlen:ys.length=xs.length) (hfit:o+xs.length≤cur.size) (hc:∀j u,xs[j]?=some u→cur[o+j]?=some u) (hd:d+vs.length≤xs.length)
 (hin:∀i,i<vs.length→ys[d+i]?=vs[i]?) (hout:∀i,(i<d∨d+vs.length≤i)→ys[i]?=xs[i]?):bB cur (o+d) vs=bB cur o ys:=by
 apply lS;intro m
 by_cases h1:o≤m∧m<o+xs.length
 ·obtain⟨e,rfl⟩:∃e,m=o+e:=⟨m-o,by omega⟩;obtain⟨u,hu⟩:∃u,ys[e]?=some u:=⟨_,aH (by omega)⟩;rw[putAt_in _ _ _ _ u (by omega) hu]
  by_cases h2:d≤e∧e<d+vs.length
  ·obtain⟨i,rfl⟩:∃i,e=d+i:=⟨e-d,by omega⟩;rw[hin i (by omega)] at hu;rw[←mZ];exact putAt_in _ _ _ _ u (by omega) hu
  rw[hout e (by omega)] at hu;rw[putAt_out _ _ _ _ (by omega)];exact hc _ _ hu
 ·rw[putAt_out _ _ _ _ (by omega),putAt_out _ _ _ _ (by omega)]
theorem KD {o:Nat} {X:Fr} (hfit:o+13≤cur.size) (hc:∀j u,(qf X)[j]?=some u→cur[o+j]?=some u):bB cur (o+8) [.int .i64 (X.r+1)]=bB cur o (qf (iy X)):=
 FL (xs:=qf X) rfl hfit hc (by show 8+1≤13;omega) (fun i hi=>by
  obtain rfl:i=0:=by simpa using hi
  rfl) (fun i hi=>by
  match i,hi with
  | 0,_=>rfl
  | 1,_=>rfl
  | 2,_=>rfl
  | 3,_=>rfl
  | 4,_=>rfl
  | 5,_=>rfl
  | 6,_=>rfl
  | 7,_=>rfl
  | 8,h=>exact absurd h (by show ¬(8<8∨8+1≤8);omega)
  | 9,_=>rfl
  | 10,_=>rfl
  | 11,_=>rfl
  | 12,_=>rfl
  | n+13,_=>rfl)
def Vy (S:MW) (p n:Nat) (B b:Nat) (w:World) (r:Ending) (w' : World):Prop:=∃S',r = .returned (.tuple #[])∧ed w' B b S'∧MS w b S w' S'∧Jj S S'∧Bd S'.H.ma S'.T∧∀q j,¬(q=p∧j=n)→fe S'.T q j=fe S.T q j
theorem Lp (S:MW) (p n:Nat) (g:Pg) (B b:Nat) (w:World) (h:ed w B b S) (hd:Bd S.H.ma S.T) (hp:p<S.H.sp.length) (hn:n<64) (h0:(fe S.T p n).k=0) (hg:onA (fF S.H.ma p).ar n=some g) (hfi:g.fi<S.H.fi.length) (hpg:0≤g.pg) (hsh:g.sh=true→0≤g.fi) :
  Calls Tryz.prog 65 #[.pointer (some ⟨b,0,none⟩),.int .i64 p,.int .i64 n,.agg #[.bool true,.bool g.rd,.bool g.wr,.bool g.sh,.int .i64 g.fi,.int .i64 g.pg]] w (Vy S p n B b w):=by
 obtain⟨grd,gwr,gsh,gfi,gpg⟩:=g;dsimp only at hfi hpg hsh ⊢;obtain⟨I,rfl⟩:=fE hpg;have hm:=Lib.hid hd;have kL:=Lib.hid hg;have kT:=Lib.hid h0;have g1:=Lib.hid h.bs;clear hd hg h0 hpg;go_enter func65,ntmps65;go_upto_region 1 with (fail);refine gB (fun W=>Code.wp _ _ _ _ W) fun w1 kO bx1 gx => ?_;have h1:=h.below kO;have s1:=(MS.refl w b S).below kO;have hT:=Lib.hid (h.new (ay _));clear h kO gx
 go_wp2_with fail
 refine (fB _ 4 B b _ h1 (by omega)).mono ?_;rintro r w2 ⟨x,a2,c2,l2,rfl,h2,s2,hx,_⟩;have bx2:=s2.blkN bx1 hT.out;have s2:=s1.trans s2;clear h1 s1 bx1;have hG:=bx2.cell;go_upto_region 5 with (fail)
 by_cases hx0:x=0
 ·subst hx0;go_wp2;refine bodyPost_ret (v:=.tuple #[]) (by simp[results,go_sem,results65]) rfl ?_;exact⟨_,rfl,h2,s2,⟨rfl,rfl,rfl,rfl,rfl,rfl⟩,hm.out,fun _ _ _=>rfl⟩
 have gP:(x==0)=false:=by simp[hx0]
 go_upto_region 6 with (fail)
 go_cut [44] (fun s44 wx=>s44 = .bool (decide (0≤gfi∧(gsh=true∨x=1)))∧wx=w2)
 case first=>
  by_cases hf:0≤gfi
  ·cases gsh with
   | true=>
    go_wp2;go_meet
    case rel=>exact⟨by simp[hf],rfl⟩
   | false=>
    by_cases hx1:x=1
    ·have k5:(x==1)=true:=by simp[hx1]
     have k6:=Lib.hid hx1;clear hx1;go_wp2;go_meet
     case rel=>exact⟨by rw[decide_eq_true ⟨hf,.inr k6.out⟩],rfl⟩
    have k5:(x==1)=false:=by simp[hx1]
    go_wp2;go_meet
    case rel=>exact⟨by rw[decide_eq_false (by rintro⟨_,h | h⟩;cases h;exact hx1 h)],rfl⟩
  go_wp2;go_meet
  case rel=>exact⟨by rw[decide_eq_false (fun h=>by have:=h.1;omega)],rfl⟩
 case rest=>
  obtain⟨rfl,gt⟩:=hcut;subst wc
  by_cases hF:0≤gfi∧(gsh=true∨x=1)
  ·rw[decide_eq_true hF];obtain⟨F,rfl⟩:=fE hF.1;have kr:F<S.H.fi.length:=by omega
   obtain⟨p0,kE⟩:∃p0,S.H.fi[F]?=some p0:=⟨_,aH kr⟩;have gA:Hid (aK S.H.ma.st (F:Int)=p0.fi):=Lib.hid (oz (by show (S.H.fi.map PF.fi)[F]?=_;rw[jO,kE];rfl));obtain⟨bf,of,hY,kn⟩:=jX jL (by decide) h2.ma.rd.st.rd F kr;have hY:S.H.ai=some ⟨bf,of,none⟩:=hY;have kn:dP w2 (some ⟨bf,of+F*2,none⟩) (qg p0):=by rw[←(cK.1 kE).2];exact kn
   have rc1:∀W,Below w2.heap.size w2 W→W.cell? ⟨bf,of+F*2+1,none⟩=some (.slice p0.a p0.l.length p0.c):=fun W hb=>by obtain⟨b',o',e,gC⟩:=(kn.below hb) 1 _ rfl;cases e;exact gC
   have gX:=Lib.hid hfi;clear kE kn hfi;go_upto_region 7 with (fail)
   by_cases hge:(p0.l.length:Int)≤(I:Int)
   ·skip;refine aM 15 [_,_,_,_,_,_,_,_,_,_,_,_,_,_,_] (Gf w.heap.size 5 rfl rfl (Gl bx2 rfl rfl rfl rfl rfl (Gk rfl (Gk rfl (Gf b 1 rfl rfl (Gf b 8 rfl rfl (Gf b 8 rfl rfl (Gl h2.blk (V:=.slice (some ⟨bf,of,none⟩) S.H.fi.length S.H.ci) (by simp[iV,MW.lst,hY]) rfl rfl rfl rfl (Gf w.heap.size 4 rfl rfl (Gl bx2 rfl rfl rfl rfl rfl (Gr (.pointer (some ⟨bf,of+F*2,none⟩)) (fun ρ y W hb hq=>(bF rfl (aF rfl hq) (aF rfl hq) kr underlying35 file_size)) rfl rfl (Gf bf (of+F*2+1) rfl rfl (Gc (.slice p0.a p0.l.length p0.c) (fun W hb=>by simp[rc1 _ hb]) rfl rfl rfl rfl (Gn rfl rfl rfl rfl (Gb (.bool true) (by simp[go_sem,hge]) rfl rfl rfl rfl rfl (aC)))))))))))))))) (fun _=>rfl) rfl ?_;intro y W3 hE _;have h3:=h2.below hE;have s3:=s2.below hE;have bx3:=bx2.ext hE;clear h2 s2 bx2 hG hE rc1 hY;have hG:=bx3.cell;go_wp2;refine bodyPost_ret (v:=.tuple #[]) (by simp[results,go_sem,results65]) rfl ?_;exact⟨_,rfl,h3,s3,⟨rfl,rfl,rfl,rfl,rfl,rfl⟩,hm.out,fun _ _ _=>rfl⟩
   skip;refine aM 15 [_,_,_,_,_,_,_,_,_,_,_,_,_,_,_] (Gf w.heap.size 5 rfl rfl (Gl bx2 rfl rfl rfl rfl rfl (Gk rfl (Gk rfl (Gf b 1 rfl rfl (Gf b 8 rfl rfl (Gf b 8 rfl rfl (Gl h2.blk (V:=.slice (some ⟨bf,of,none⟩) S.H.fi.length S.H.ci) (by simp[iV,MW.lst,hY]) rfl rfl rfl rfl (Gf w.heap.size 4 rfl rfl (Gl bx2 rfl rfl rfl rfl rfl (Gr (.pointer (some ⟨bf,of+F*2,none⟩)) (fun ρ y W hb hq=>(bF rfl (aF rfl hq) (aF rfl hq) kr underlying35 file_size)) rfl rfl (Gf bf (of+F*2+1) rfl rfl (Gc (.slice p0.a p0.l.length p0.c) (fun W hb=>by simp[rc1 _ hb]) rfl rfl rfl rfl (Gn rfl rfl rfl rfl (Gb (.bool false) (by simp[go_sem,hge]) rfl rfl rfl rfl rfl (aC)))))))))))))))) (fun _=>rfl) rfl ?_;intro y W3 hE _;have h3:=h2.below hE;have s3:=s2.below hE;have bx3:=bx2.ext hE;clear h2 s2 bx2 hG hE rc1 hY;have hG:=bx3.cell
   go_wp2_with fail
   refine (JK _ F I B b _ h3 hm.out ⟨⟨by omega,by simp[MH.ma,bY,MW.lst];omega⟩,by omega,by show (I:Int)<(aK S.H.ma.st (F:Int)).b.length;rw[gA.out];show (I:Int)<p0.l.length;omega⟩).mono ?_;rintro r w4 ⟨x3,S3,rfl,h4,s4,k4,t4,bd4,gr⟩;have bx4:=s4.blkN bx3 hT.out;have ga:=Lib.hid (s4.not bx3.lt hT.out);have s4:=s3.trans s4;clear h3 s3 bx3 hG;have hG:=bx4.cell;rcases gr with rfl|⟨c,hcm,hcf,hci,rfl⟩
   ·go_wp2;refine bodyPost_ret (v:=.tuple #[]) (by simp[results,go_sem,results65]) rfl ?_;exact⟨S3,rfl,h4,s4,⟨k4.sp,k4.fi,k4.ct,k4.dk,k4.fl,k4.sl⟩,bd4,fun _ _ _=>by rw[t4];rfl⟩
   have gb:=bd4.rt.ca.lt c hcm;obtain⟨f,kM⟩:=fE gb.1;have gc:f<S3.H.m.fs.length:=by have e:((dU S3.H.ma S3.T).m.fs.length:Nat)=S3.H.m.fs.length:=rfl;omega
   have kA:=Lib.hid (And.intro hcm (And.intro hcf hci));have gd:=Lib.hid kM;rw[kM];clear gb hcm hcf hci kM;obtain⟨gf,off,cap,cur,hv,kI,hN,ko,hU,hW⟩:=h4.ma.fr.put fJ (by decide) f gc;have kQ:S3.H.af=some ⟨gf,off,none⟩:=(ng hv).1;have hX:Hid (aN S3.H.ma f=S3.H.m.fs[f]):=Lib.hid (by unfold aN;show S3.H.m.fs.getD f fr0=_;rw[aS,aH (by omega)];rfl);have k9:=bd4.rt.fewR (f:=f) gc;have gy:0≤(S3.H.m.fs[f]).r∧(S3.H.m.fs[f]).r≤257:=by rw[←hX.out];exact k9
   have c8:w4.cell? ⟨gf,off+f*13+8,none⟩=some (.int .i64 (S3.H.m.fs[f]).r):=hU 8 _ rfl;have hV:=Lib.hid hW;have kd:=Lib.hid hU;clear hv hW hU k9;generalize S3.H.m.fs[f]=X at c8 hX gy kd;have hc:=h4.blk.cell;unfold iV at hc;rw[kQ] at hc;have gY:IntKind.i64.wrap (X.r+1)=X.r+1:=bM _ (by omega);have gW:(f:Int)<(S3.H.m.fs.length:Int):=by omega
   go_wp2_with (refine aA rfl _ _ _ rfl gf (off+f*13+8) _ [.int .i64 (X.r+1)] rfl rfl rfl _ _ hN (by show off+f*13+8+1≤cur.size;omega) (by kernel_rfl) (fun u hu=>by cases bv.1 hu;rfl) ?_)
   intro w5 kN kp;rw[KD (by omega) (fun j u hj=>by rw[←hN.cell];exact kd.out j u hj)] at kN;have h5:ed w5 B b (S3.frs (S3.H.m.fs.set f (iy X))):=h4.putF hN kI kp (fs:=S3.H.m.fs.set f (iy X)) (by simp) (by simpa using hV.out _ _ kN);have kw:mP b S3 gf:=.inr (by simp only[gZ,kQ];exact gV);have s5:=s4.put (H':=S3.frs (S3.H.m.fs.set f (iy X))) kp kw (fun x hx => .inl hx);have bx5:=bx4.grown kp (fun e=>ga.out (by rw[←aJ e];exact kw));have hM:Hid (¬mP b (S3.frs (S3.H.m.fs.set f (iy X))) w.heap.size):=ga;have kq:S3.T.length=S.H.sp.length:=by have:=bd4.ok.len;rw[this];show (S3.H.sp.map PS.sp).length=_;rw[fo,k4.sp];rfl
   have hD:p<S3.T.length:=by omega
   have gh:∀(S' : MW),S'.T=S3.T→(eU S'.T p).length=64:=fun S' e=>by rw[e];exact bd4.ok.l64 (by rw[←bd4.ok.len];exact hD)
   have kv:fF S3.H.ma p=fF S.H.ma p:=by show (S3.H.sp.map PS.sp).getD p zSp=(S.H.sp.map PS.sp).getD p zSp;rw[k4.sp];rfl
   have kC:p<S3.H.ma.sp.length:=by show p<(S3.H.sp.map PS.sp).length;rw[fo,k4.sp];exact hp
   have hH:Hid (∀u:Bool,(u=true→gsh=true∧gwr=true)→Bd (S3.frs (S3.H.m.fs.set f (iy X))).H.ma (setL (S3.frs (S3.H.m.fs.set f (iy X))).T p n ⟨1,f,u⟩)):=Lib.hid fun u hu=>by have h9:=bd4.cachedE (w:=u) kC hn (by rw[t4];exact kT.out) kA.out.1 (by rw[kv];exact kL.out) kA.out.2 hu;rw[gd.out,bR,hX.out] at h9;exact h9
   have i:Hid (Jj S (S3.frs (S3.H.m.fs.set f (iy X)))):=Lib.hid ⟨k4.sp,k4.fi,k4.ct,k4.dk,by show (S3.H.m.fs.set f (iy X)).length=_;rw[bH];exact k4.fl,k4.sl⟩;have hA:Hid (∀x q j,¬(q=p∧j=n)→fe (setL (S3.frs (S3.H.m.fs.set f (iy X))).T p n x) q j=fe S.T q j):=Lib.hid fun x q j kb=>by show fe (setL S3.T p n x) q j=_;rw[wK bd4.ok kC hn,if_neg kb,t4];rfl
   have o:Hid (p<(S3.frs (S3.H.m.fs.set f (iy X))).T.length):=Lib.hid hD;have hI:Hid (∀S' : MW,S'.T=(S3.frs (S3.H.m.fs.set f (iy X))).T→(eU S'.T p).length=64):=Lib.hid gh;generalize S3.frs (S3.H.m.fs.set f (iy X))=S5 at *
   obtain⟨gT,oT,_,hl,_⟩:=ed.ent (S:=S5) h5 (p:=p) (n:=n) o.out hn (hI.out _ rfl);clear kv kC hD gh kq;clear h4 s4 bx4 hG hc c8 kN kp hN kd hV ko kQ;go_upto_region 11 with (fail);cases gsh with
   | true=>cases gwr with
    | true=>
     skip;refine gN 20 [_,_,_,.v (.slice (some ⟨gT,oT,none⟩) S5.T.length S5.cb),_,.v (.int .i64 (n:Int)),_,_,.v (.bool true),_,_,.v (.bool true),_,_,_,.r 15 ((bW fun v => ∃x:Int,v = .int .i64 x∧0≤x)),.r 16 ((bW fun v => ∃u,v = .bool u)),.r 17 ((bW fun v => ∃u,(u=true→true=true)∧v = .bool u)),.r 18 ((bW fun v => ∃u,(u=true→true=true)∧v = .agg #[.int .i64 1,.int .i64 (f:Int),.bool u])),_] (Me S5 B b w5 [(w.heap.size,#[.bool true,.bool grd,.bool true,.bool true,.int .i64 (F:Int),.int .i64 (I:Int)],109)]) aD (fun _=>⟨S5.al,S5.cl,S5.l,h5,MS.refl _ _ _,by simpa using ⟨bx5,hM.out⟩⟩) (Qk aD rfl (Qk aD rfl (Qf aD b 12 rfl rfl (ag ?_ (Qk aD rfl (Qk aD rfl (Qk aD rfl (Qf aD w.heap.size 3 rfl rfl (ag ?_ (Qk aD rfl (Qf aD w.heap.size 2 rfl rfl (ag ?_ (Qk aD rfl (Qk aD rfl (Qk aD rfl (ag ?_ (ag ?_ (ag ?_ (ag ?_ (Qr aD (.pointer (some ⟨gT,oT+p*192,none⟩)) (fun ρ y W hq=>(bF rfl (aF rfl hq) (aF rfl hq) o.out underlying75 ents_size)) rfl rfl (aC))))))))))))))))))))) (fun _=>rfl) rfl ?_
     ·intro ρ y W L hw hn s z hb hd;refine eD aD (fun _ _ h=>h) hb ?_;have kk:=hw 94 2 rfl;have h2:y 2=_:=hd 2 rfl;obtain⟨a,c,l,m1,m2,m3⟩:=hb;refine aj (.slice (some ⟨gT,oT,none⟩) S5.T.length S5.cb) (ah rfl) (by simp[execOp,go_sem,kk,h2,m1.blk.cell,iV,MW.lst,hl]) rfl
     ·intro ρ y W L hw hn s z hb hd;refine eD aD (fun _ _ h=>h) hb ?_;have ki:=hw 99 7 rfl;have h7:y 7=_:=hd 7 rfl;obtain⟨a,c,l,m1,m2,m3⟩:=hb;have m3:=(m3 _ (bv.2 rfl)).1;refine aj (.bool true) (ah rfl) (by simp[execOp,go_sem,ki,h7,m3.cell]) rfl
     ·intro ρ y W L hw hn s z hb hd;refine eD aD (fun _ _ h=>h) hb ?_;have km:=hw 102 10 rfl;have kh:y 10=_:=hd 10 rfl;obtain⟨a,c,l,m1,m2,m3⟩:=hb;have m3:=(m3 _ (bv.2 rfl)).1;refine aj (.bool true) (bu 9 101 true true rfl rfl ((hw 101 9 rfl).trans (hd 9 rfl))) (by simp[execOp,go_sem,km,kh,m3.cell]) rfl
     ·intro ρ y W L hw hn s z hb hd;have gn:=hw 106 14 rfl;have gG:y 14=_:=hd 14 rfl;have EC:∀v,ρ (.const v)=v:=fun v=>hn (.const v) trivial;have EF:∀f,ρ (.func f) = .func (.func f) #[] #[]:=fun f=>hn (.func f) trivial;refine gU _ _ (bu 13 105 true true rfl rfl ((hw 105 13 rfl).trans (hd 13 rfl))) (aU rfl (EF _) func30 (by kernel_rfl) (by kernel_rfl) (by simp only[bV,bP,bT,gn,gG,EC,EF];rfl)) ?_;exact zK 2 (by omega) hb fun x h1 _ _ _=>⟨x,rfl,h1⟩
     ·intro ρ y W L hw hn s z hb hd;refine eD aD (fun _ _ h=>h) hb ?_;have gm:=hw 107 15 rfl;have gF:=hd 15 rfl;obtain⟨x,hx,_⟩:=gF;refine aj _ (bu 13 105 true true rfl rfl ((hw 105 13 rfl).trans (hd 13 rfl))) (pF rfl (gm.trans hx) (hn (.const _) trivial) (by simp[go_sem];rfl)) ⟨_,rfl⟩
     ·intro ρ y W L hw hn s z hb hd;refine eD aD (fun _ _ h=>h) hb ?_;have hR:=hw 105 13 rfl;have hJ:y 13=_:=hd 13 rfl;have kl:=hw 108 16 rfl;have kR:=hd 16 rfl;obtain⟨u,hu⟩:=kR;refine aj (.bool u) (ah rfl) (pI rfl (hR.trans hJ) (by simpa using kl.trans hu)) ⟨_,fun _=>rfl,rfl⟩
     ·intro ρ y W L hw hn s z hb hd;refine eD aD (fun _ _ h=>h) hb ?_;have kj:=hw 98 6 rfl;have h6:y 6=_:=hd 6 rfl;have hQ:=hw 109 17 rfl;have kg:=hd 17 rfl;obtain⟨u,hr,hu⟩:=kg;have EC:∀v,ρ (.const v)=v:=fun v=>hn (.const v) trivial;refine aj (.agg #[.int .i64 1,.int .i64 (f:Int),.bool u]) (ah rfl) (by simp[execOp,go_sem,kj,h6,hQ,EC,hu]) ⟨u,hr,rfl⟩
     intro y W6 hB d;have gL:((bW fun v => ∃x:Int,v = .int .i64 x∧0≤x)).r (y 15) W6:=d 15 (by decide);have gK:((bW fun v => ∃u,v = .bool u)).r (y 16) W6:=d 16 (by decide);have ks:((bW fun v => ∃u,(u=true→true=true)∧v = .bool u)).r (y 17) W6:=d 17 (by decide);have hK:((bW fun v => ∃u,(u=true→true=true)∧v = .agg #[.int .i64 1,.int .i64 (f:Int),.bool u])).r (y 18) W6:=d 18 (by decide);clear d;obtain⟨a6,c6,l6,h6,s6,_⟩:=hB;obtain⟨u,hr,hu⟩:=hK;rw[hu];clear hu;obtain⟨gT',oT',curT,hk,hO,hy,hs,_,ha⟩:=ed.ent (S:=S5.lst a6 c6 l6) h6 (p:=p) (n:=n) o.out hn (hI.out _ rfl);have e9:(some (⟨gT',oT',none⟩:Addr))=some ⟨gT,oT,none⟩:=hk.symm.trans hl;cases e9;have hL:(p:Int)<(S5.T.length:Int):=by have:=o.out;omega
     have ka:(n:Int)<64:=by omega
     have hh:=Lib.hid ha;have s6:=s5.trans s6;clear ha hk h5 s5
     go_wp2_with (refine aA rfl _ _ _ rfl gT (oT+p*192+n*3) _ (kS ⟨1,f,u⟩) rfl rfl rfl _ _ hy (by rw[fA];exact hs) (by kernel_rfl) (bS (iO _)) ?_)
     intro w7 hC hi;have h7:=hh.out w7 ⟨1,f,u⟩ hC hi;have s7:=s6.put (H':={ S5.lst a6 c6 l6 with T:=setL (S5.lst a6 c6 l6).T p n ⟨1,f,u⟩ }) hi (.inr (by simp only[gZ,MW.lst,hl];simp[oB];right;right;right;right;right;right;right;right;rfl)) (fun x hx => .inl hx);clear hy hC hi h6 s6;go_wp2;refine bodyPost_ret (v:=.tuple #[]) (by simp[results,go_sem,results65]) rfl ?_;exact⟨_,rfl,h7,s7,⟨i.out.sp,i.out.fi,i.out.ct,i.out.dk,i.out.fl,i.out.sl⟩,hH.out u (fun h=>by first | exact trivial | exact⟨rfl,rfl⟩ | exact absurd (hr h) (by decide) | simp),hA.out _⟩
    | false=>
     skip;refine gN 20 [_,_,_,.v (.slice (some ⟨gT,oT,none⟩) S5.T.length S5.cb),_,.v (.int .i64 (n:Int)),_,_,.v (.bool true),_,_,.v (.bool false),_,_,_,_,_,.r 17 ((bW fun v => ∃u,(u=true→false=true)∧v = .bool u)),.r 18 ((bW fun v => ∃u,(u=true→false=true)∧v = .agg #[.int .i64 1,.int .i64 (f:Int),.bool u])),_] (Me S5 B b w5 [(w.heap.size,#[.bool true,.bool grd,.bool false,.bool true,.int .i64 (F:Int),.int .i64 (I:Int)],109)]) aD (fun _=>⟨S5.al,S5.cl,S5.l,h5,MS.refl _ _ _,by simpa using ⟨bx5,hM.out⟩⟩) (Qk aD rfl (Qk aD rfl (Qf aD b 12 rfl rfl (ag ?_ (Qk aD rfl (Qk aD rfl (Qk aD rfl (Qf aD w.heap.size 3 rfl rfl (ag ?_ (Qk aD rfl (Qf aD w.heap.size 2 rfl rfl (ag ?_ (Qk aD rfl (Qk aD rfl (Qk aD rfl (Qk aD rfl (Qk aD rfl (ag ?_ (ag ?_ (Qr aD (.pointer (some ⟨gT,oT+p*192,none⟩)) (fun ρ y W hq=>(bF rfl (aF rfl hq) (aF rfl hq) o.out underlying75 ents_size)) rfl rfl (aC))))))))))))))))))))) (fun _=>rfl) rfl ?_
     ·intro ρ y W L hw hn s z hb hd;refine eD aD (fun _ _ h=>h) hb ?_;have kk:=hw 94 2 rfl;have h2:y 2=_:=hd 2 rfl;obtain⟨a,c,l,m1,m2,m3⟩:=hb;refine aj (.slice (some ⟨gT,oT,none⟩) S5.T.length S5.cb) (ah rfl) (by simp[execOp,go_sem,kk,h2,m1.blk.cell,iV,MW.lst,hl]) rfl
     ·intro ρ y W L hw hn s z hb hd;refine eD aD (fun _ _ h=>h) hb ?_;have ki:=hw 99 7 rfl;have h7:y 7=_:=hd 7 rfl;obtain⟨a,c,l,m1,m2,m3⟩:=hb;have m3:=(m3 _ (bv.2 rfl)).1;refine aj (.bool true) (ah rfl) (by simp[execOp,go_sem,ki,h7,m3.cell]) rfl
     ·intro ρ y W L hw hn s z hb hd;refine eD aD (fun _ _ h=>h) hb ?_;have km:=hw 102 10 rfl;have kh:y 10=_:=hd 10 rfl;obtain⟨a,c,l,m1,m2,m3⟩:=hb;have m3:=(m3 _ (bv.2 rfl)).1;refine aj (.bool false) (bu 9 101 true true rfl rfl ((hw 101 9 rfl).trans (hd 9 rfl))) (by simp[execOp,go_sem,km,kh,m3.cell]) rfl
     ·intro ρ y W L hw hn s z hb hd;refine eD aD (fun _ _ h=>h) hb ?_;have hR:=hw 105 13 rfl;have hJ:y 13=_:=hd 13 rfl;have kl:=hw 108 16 rfl;have kR:y 16=_:=hd 16 rfl;refine aj (.bool false) (ah rfl) (pI rfl (hR.trans hJ) (by exact (hn (.const _) trivial).trans rfl)) ⟨false,fun h=>(by cases h),rfl⟩
     ·intro ρ y W L hw hn s z hb hd;refine eD aD (fun _ _ h=>h) hb ?_;have kj:=hw 98 6 rfl;have h6:y 6=_:=hd 6 rfl;have hQ:=hw 109 17 rfl;have kg:=hd 17 rfl;obtain⟨u,hr,hu⟩:=kg;have EC:∀v,ρ (.const v)=v:=fun v=>hn (.const v) trivial;refine aj (.agg #[.int .i64 1,.int .i64 (f:Int),.bool u]) (ah rfl) (by simp[execOp,go_sem,kj,h6,hQ,EC,hu]) ⟨u,hr,rfl⟩
     intro y W6 hB d;have ks:((bW fun v => ∃u,(u=true→false=true)∧v = .bool u)).r (y 17) W6:=d 17 (by decide);have hK:((bW fun v => ∃u,(u=true→false=true)∧v = .agg #[.int .i64 1,.int .i64 (f:Int),.bool u])).r (y 18) W6:=d 18 (by decide);clear d;obtain⟨a6,c6,l6,h6,s6,_⟩:=hB;obtain⟨u,hr,hu⟩:=hK;rw[hu];clear hu;obtain⟨gT',oT',curT,hk,hO,hy,hs,_,ha⟩:=ed.ent (S:=S5.lst a6 c6 l6) h6 (p:=p) (n:=n) o.out hn (hI.out _ rfl);have e9:(some (⟨gT',oT',none⟩:Addr))=some ⟨gT,oT,none⟩:=hk.symm.trans hl;cases e9;have hL:(p:Int)<(S5.T.length:Int):=by have:=o.out;omega
     have ka:(n:Int)<64:=by omega
     have hh:=Lib.hid ha;have s6:=s5.trans s6;clear ha hk h5 s5
     go_wp2_with (refine aA rfl _ _ _ rfl gT (oT+p*192+n*3) _ (kS ⟨1,f,u⟩) rfl rfl rfl _ _ hy (by rw[fA];exact hs) (by kernel_rfl) (bS (iO _)) ?_)
     intro w7 hC hi;have h7:=hh.out w7 ⟨1,f,u⟩ hC hi;have s7:=s6.put (H':={ S5.lst a6 c6 l6 with T:=setL (S5.lst a6 c6 l6).T p n ⟨1,f,u⟩ }) hi (.inr (by simp only[gZ,MW.lst,hl];simp[oB];right;right;right;right;right;right;right;right;rfl)) (fun x hx => .inl hx);clear hy hC hi h6 s6;go_wp2;refine bodyPost_ret (v:=.tuple #[]) (by simp[results,go_sem,results65]) rfl ?_;exact⟨_,rfl,h7,s7,⟨i.out.sp,i.out.fi,i.out.ct,i.out.dk,i.out.fl,i.out.sl⟩,hH.out u (fun h=>by first | exact trivial | exact⟨rfl,rfl⟩ | exact absurd (hr h) (by decide) | simp),hA.out _⟩
   | false=>
    skip;refine gN 20 [_,_,_,.v (.slice (some ⟨gT,oT,none⟩) S5.T.length S5.cb),_,.v (.int .i64 (n:Int)),_,_,.v (.bool false),_,_,_,_,_,_,_,_,.r 17 ((bW fun v => ∃u,(u=true→false=true)∧v = .bool u)),.r 18 ((bW fun v => ∃u,(u=true→false=true)∧v = .agg #[.int .i64 1,.int .i64 (f:Int),.bool u])),_] (Me S5 B b w5 [(w.heap.size,#[.bool true,.bool grd,.bool gwr,.bool false,.int .i64 (F:Int),.int .i64 (I:Int)],109)]) aD (fun _=>⟨S5.al,S5.cl,S5.l,h5,MS.refl _ _ _,by simpa using ⟨bx5,hM.out⟩⟩) (Qk aD rfl (Qk aD rfl (Qf aD b 12 rfl rfl (ag ?_ (Qk aD rfl (Qk aD rfl (Qk aD rfl (Qf aD w.heap.size 3 rfl rfl (ag ?_ (Qk aD rfl (Qk aD rfl (Qk aD rfl (Qk aD rfl (Qk aD rfl (Qk aD rfl (Qk aD rfl (Qk aD rfl (ag ?_ (ag ?_ (Qr aD (.pointer (some ⟨gT,oT+p*192,none⟩)) (fun ρ y W hq=>(bF rfl (aF rfl hq) (aF rfl hq) o.out underlying75 ents_size)) rfl rfl (aC))))))))))))))))))))) (fun _=>rfl) rfl ?_
    ·intro ρ y W L hw hn s z hb hd;refine eD aD (fun _ _ h=>h) hb ?_;have kk:=hw 94 2 rfl;have h2:y 2=_:=hd 2 rfl;obtain⟨a,c,l,m1,m2,m3⟩:=hb;refine aj (.slice (some ⟨gT,oT,none⟩) S5.T.length S5.cb) (ah rfl) (by simp[execOp,go_sem,kk,h2,m1.blk.cell,iV,MW.lst,hl]) rfl
    ·intro ρ y W L hw hn s z hb hd;refine eD aD (fun _ _ h=>h) hb ?_;have ki:=hw 99 7 rfl;have h7:y 7=_:=hd 7 rfl;obtain⟨a,c,l,m1,m2,m3⟩:=hb;have m3:=(m3 _ (bv.2 rfl)).1;refine aj (.bool false) (ah rfl) (by simp[execOp,go_sem,ki,h7,m3.cell]) rfl
    ·intro ρ y W L hw hn s z hb hd;refine eD aD (fun _ _ h=>h) hb ?_;have hR:=hw 105 13 rfl;have hJ:y 13=_:=hd 13 rfl;have kl:=hw 108 16 rfl;have kR:y 16=_:=hd 16 rfl;refine aj (.bool false) (ah rfl) (pI rfl (hR.trans hJ) (by exact (hn (.const _) trivial).trans rfl)) ⟨false,fun h=>(by cases h),rfl⟩
    ·intro ρ y W L hw hn s z hb hd;refine eD aD (fun _ _ h=>h) hb ?_;have kj:=hw 98 6 rfl;have h6:y 6=_:=hd 6 rfl;have hQ:=hw 109 17 rfl;have kg:=hd 17 rfl;obtain⟨u,hr,hu⟩:=kg;have EC:∀v,ρ (.const v)=v:=fun v=>hn (.const v) trivial;refine aj (.agg #[.int .i64 1,.int .i64 (f:Int),.bool u]) (ah rfl) (by simp[execOp,go_sem,kj,h6,hQ,EC,hu]) ⟨u,hr,rfl⟩
    intro y W6 hB d;have ks:((bW fun v => ∃u,(u=true→false=true)∧v = .bool u)).r (y 17) W6:=d 17 (by decide);have hK:((bW fun v => ∃u,(u=true→false=true)∧v = .agg #[.int .i64 1,.int .i64 (f:Int),.bool u])).r (y 18) W6:=d 18 (by decide);clear d;obtain⟨a6,c6,l6,h6,s6,_⟩:=hB;obtain⟨u,hr,hu⟩:=hK;rw[hu];clear hu;obtain⟨gT',oT',curT,hk,hO,hy,hs,_,ha⟩:=ed.ent (S:=S5.lst a6 c6 l6) h6 (p:=p) (n:=n) o.out hn (hI.out _ rfl);have e9:(some (⟨gT',oT',none⟩:Addr))=some ⟨gT,oT,none⟩:=hk.symm.trans hl;cases e9;have hL:(p:Int)<(S5.T.length:Int):=by have:=o.out;omega
    have ka:(n:Int)<64:=by omega
    have hh:=Lib.hid ha;have s6:=s5.trans s6;clear ha hk h5 s5
    go_wp2_with (refine aA rfl _ _ _ rfl gT (oT+p*192+n*3) _ (kS ⟨1,f,u⟩) rfl rfl rfl _ _ hy (by rw[fA];exact hs) (by kernel_rfl) (bS (iO _)) ?_)
    intro w7 hC hi;have h7:=hh.out w7 ⟨1,f,u⟩ hC hi;have s7:=s6.put (H':={ S5.lst a6 c6 l6 with T:=setL (S5.lst a6 c6 l6).T p n ⟨1,f,u⟩ }) hi (.inr (by simp only[gZ,MW.lst,hl];simp[oB];right;right;right;right;right;right;right;right;rfl)) (fun x hx => .inl hx);clear hy hC hi h6 s6;go_wp2;refine bodyPost_ret (v:=.tuple #[]) (by simp[results,go_sem,results65]) rfl ?_;exact⟨_,rfl,h7,s7,⟨i.out.sp,i.out.fi,i.out.ct,i.out.dk,i.out.fl,i.out.sl⟩,hH.out u (fun h=>by first | exact trivial | exact⟨rfl,rfl⟩ | exact absurd (hr h) (by decide) | simp),hA.out _⟩
  rw[decide_eq_false hF];obtain rfl:gsh=false:=by
   cases gsh with
   | false=>rfl
   | true=>exact absurd ⟨hsh rfl,.inl rfl⟩ hF
  have ke:=Lib.hid hm.out.few;have gu:S.H.sl.length≤60:=ke.out.2.1;have hc:=h2.blk.cell;unfold iV at hc;dsimp only[MW.lst] at hc;clear hF hsh;go_upto_region 12 with (fail)
  go_cut [113] (fun s113 wx=>s113 = .bool (decide (x=2∧0<S.H.sl.length))∧wx=w2)
  case first=>
   by_cases hx2:x=2
   ·have k2:(x==2)=true:=by simp[hx2]
    have k3:=Lib.hid hx2;clear hx2
    by_cases hsl:0<S.H.sl.length
    ·have k8:(0:Int)<(S.H.sl.length:Int):=by omega
     go_wp2;go_meet
     case rel=>exact⟨by rw[decide_eq_true ⟨k3.out,hsl⟩],rfl⟩
    have k8:¬(0:Int)<(S.H.sl.length:Int):=by omega
    go_wp2;go_meet
    case rel=>exact⟨by rw[decide_eq_false (fun h=>hsl h.2)],rfl⟩
   have k2:(x==2)=false:=by simp[hx2]
   go_wp2;go_meet
   case rel=>exact⟨by rw[decide_eq_false (fun h=>hx2 h.1)],rfl⟩
  case rest=>
   obtain⟨rfl,gt⟩:=hcut;subst wc
   by_cases hS:x=2∧0<S.H.sl.length
   ·rw[decide_eq_true hS];have hsl:=hS.2;clear hS
    go_wp2_with fail
    refine (fB _ _ B b _ h2 (by omega)).mono ?_;rintro r w3 ⟨y3,a3,c3,l3,rfl,h3,s3,k0,_⟩;rw[nQ] at h3 s3;have s3:=s2.trans s3;obtain⟨s0,rfl⟩:=fE k0.1;have kB:s0<S.H.sl.length:=by omega
    have gR:(s0:Int)<(S.H.sl.length:Int):=by omega
    clear h2 s2 bx2 hG hc k0;have hc:=h3.blk.cell;unfold iV at hc;dsimp only[MW.lst] at hc;obtain⟨gs,off,cap,cur,hv,kI,hN,ko,hU,hW⟩:=Own.put (enc:=fun x=>[fT x]) (sz:=1) (l:=S.H.sl) (fun _=>rfl) Nat.one_pos (by rw[iZ];exact h3.ma.sl) s0 kB;have kP:S.H.asl=some ⟨gs,off,none⟩:=(ng hv).1;rw[kP] at hc;rw[sH] at ko hU hW;have c0:w3.cell? ⟨gs,off+s0,none⟩=some (.int .i64 S.H.sl[s0]):=hU 0 _ rfl;have kZ:Hid (oZ S.H.ma s0=S.H.sl[s0]):=Lib.hid (by unfold oZ;show S.H.sl.getD s0 0=_;rw[aS,aH kB];rfl);have hV:=Lib.hid hW;clear hv hW hU;generalize S.H.sl[s0]=v0 at c0 kZ
    by_cases hz:v0=0
    ·subst hz
     go_wp2_with (refine aA rfl _ _ _ rfl gs (off+s0) _ [.int .i64 1] rfl rfl rfl _ _ hN (by show off+s0+1≤cur.size;omega) (by kernel_rfl) (fun u hu=>by cases bv.1 hu;rfl) ?_)
     intro w4 gg kK;have kH:oB (S.lst a3 c3 l3).H.asl=some gs:=by show oB S.H.asl=some gs;rw[kP];rfl
     have h4:ed w4 B b { S.lst a3 c3 l3 with H:={ S.H with sl:=S.H.sl.set s0 1 } }:=h3.putS hN kI kH kK (sl:=S.H.sl.set s0 1) (by simp[MW.lst]) (by have:=hV.out w4 1 gg;rw[iZ] at this;simpa[MW.lst] using this);have s4:=s3.put (H':={ S.lst a3 c3 l3 with H:={ S.H with sl:=S.H.sl.set s0 1 } }) kK (.inr (by simp[gZ,kH])) (fun x hx => .inl hx);have gQ:S.H.sw.blocks.length=S.H.sl.length:=ke.out.2.2.2.2.2.2.2;have gD:Hid (Jj S { S.lst a3 c3 l3 with H:={ S.H with sl:=S.H.sl.set s0 1 } }):=Lib.hid ⟨rfl,rfl,rfl,rfl,rfl,bH⟩;have kq:S.T.length=S.H.sp.length:=by have:=hm.out.ok.len;rw[this];exact fo _
     have hD:p<S.T.length:=by omega
     have gE:(eU S.T p).length=64:=hm.out.ok.l64 (by rw[←hm.out.ok.len];exact hD);have hH:Hid (∀P,Bd { S.H.ma with sl:=S.H.sl.set s0 1,sw:=⟨S.H.sw.blocks.set s0 P,S.H.sw.queue⟩ } (setL S.T p n ⟨2,s0,false⟩)):=Lib.hid fun P=>
      hm.out.slotE (P:=P) (by rw[←hm.out.ok.len];exact hD) hn kT.out kB kZ.out kL.out rfl
     have hA:Hid (∀x q j,¬(q=p∧j=n)→fe (setL S.T p n x) q j=fe S.T q j):=Lib.hid fun x q j kb=>by rw[wK hm.out.ok (by rw[←hm.out.ok.len];exact hD) hn,if_neg kb]
     obtain⟨gw,ow,capw,curw,k7,gS,_,_,_,_⟩:=h4.ma.sw.b.put kD (by decide) s0 (by show s0<S.H.sw.blocks.length;omega);have kf:S.H.wb=some ⟨gw,ow,none⟩:=(ng k7).1;generalize hS4:({ S.lst a3 c3 l3 with H:={ S.H with sl:=S.H.sl.set s0 1 } }:MW)=S4 at h4 s4 gD;have kf:S4.H.wb=some ⟨gw,ow,none⟩:=by rw[←hS4];exact kf
     have ku:S4.H.sw=S.H.sw:=by rw[←hS4]
     clear h3 s3 gg kK hN ko c0 hc kP kH k7;go_upto_region 16 with (fail);refine gN 9 [_,_,_,_,_,.v (.slice (some ⟨gw,ow,none⟩) S4.H.sw.blocks.length S4.H.cwb),.v (.int .i64 (s0:Int)),_,.r 8 ((bW fun v => ∃P,v = .agg (iB P)))] (Me S4 B b w4 []) aD (fun _=>⟨S4.al,S4.cl,S4.l,h4,MS.refl _ _ _,fun t ht=>(by cases ht)⟩) (Qk aD rfl (Qk aD rfl (Qf aD b 1 rfl rfl (Qf aD b 4 rfl rfl (Qf aD b 4 rfl rfl (ag ?_ (Qk aD rfl (Qk aD rfl (ag ?_ (aC)))))))))) (fun _=>rfl) rfl ?_
     ·intro ρ y W L hw hn s z hb hd;refine eD aD (fun _ _ h=>h) hb ?_;have gl:=hw 153 4 rfl;have h4:y 4=_:=hd 4 rfl;obtain⟨a,c,l,m1,m2,m3⟩:=hb;refine aj (.slice (some ⟨gw,ow,none⟩) S4.H.sw.blocks.length S4.H.cwb) (ah rfl) (by simp[execOp,go_sem,gl,h4,m1.blk.cell,iV,MW.lst,kf]) rfl
     ·intro ρ y W L hw hn s z hb hd;have gk:=hw 156 7 rfl;have h7:y 7=_:=hd 7 rfl;have EF:∀f,ρ (.func f) = .func (.func f) #[] #[]:=fun f=>hn (.func f) trivial;refine gU _ _ (ah rfl) (aU rfl (EF _) func33 (by kernel_rfl) (by kernel_rfl) (by simp only[bV,bP,bT,gk,h7,EF];rfl)) ?_;exact Te hb fun P _=>⟨P,rfl⟩
     intro y W6 hB d;have gp:((bW fun v => ∃P,v = .agg (iB P))).r (y 8) W6:=d 8 (by decide);clear d;obtain⟨a6,c6,l6,h6,s6,_⟩:=hB;obtain⟨P,hP⟩:=gp;rw[hP];clear hP;have s6:=s4.trans s6;obtain⟨gw',ow',capw',curw',kt,kG,kc,ky,_,kx⟩:=h6.ma.sw.b.put kD (by decide) s0 (by show s0<S4.H.sw.blocks.length;rw[ku];omega);have e9:(some (⟨gw',ow',none⟩:Addr))=some ⟨gw,ow,none⟩:=(ng kt).1.symm.trans kf;cases e9;have gv:(s0:Int)<(S4.H.sw.blocks.length:Int):=by rw[ku];omega
     have kF:=Lib.hid kx;clear kt kx h4 s4
     go_wp2_with (refine aA rfl _ _ _ rfl gw (ow+s0*8) _ (Br P) rfl rfl rfl _ _ kc (by rw[kD];exact ky) (by kernel_rfl) (bS (jy P)) ?_)
     intro w7 hC hi;have kz:oB (S4.lst a6 c6 l6).H.wb=some gw:=by show oB S4.H.wb=some gw;rw[kf];rfl
     have h7:ed w7 B b { S4.lst a6 c6 l6 with H:={ S4.H with sw:=⟨S4.H.sw.blocks.set s0 P,S4.H.sw.queue⟩ } }:=h6.putW kc kG kz hi (l:=S4.H.sw.blocks.set s0 P) (by simp[MW.lst]) (by simpa[MW.lst] using kF.out w7 P hC);have s7:=s6.put (H':={ S4.lst a6 c6 l6 with H:={ S4.H with sw:=⟨S4.H.sw.blocks.set s0 P,S4.H.sw.queue⟩ } }) hi (.inr (by simp[gZ,kz])) (fun x hx => .inl hx);clear h6 s6 kc hC hi ky gv;subst hS4;dsimp only[MW.lst] at h7 s7;obtain⟨gT,oT,curT,hl,hO,hy,hs,_,ha⟩:=ed.ent h7 (p:=p) (n:=n) hD hn gE;have hl:S.ab=some ⟨gT,oT,none⟩:=hl;have hc:=h7.blk.cell;unfold iV at hc;dsimp only at hc;rw[hl] at hc;have hL:(p:Int)<(S.T.length:Int):=by omega
     have ka:(n:Int)<64:=by omega
     have hh:=Lib.hid ha;clear ha
     go_wp2_with (refine aA rfl _ _ _ rfl gT (oT+p*192+n*3) _ (kS ⟨2,s0,false⟩) rfl rfl rfl _ _ hy (by rw[fA];exact hs) (by kernel_rfl) (bS (iO _)) ?_)
     intro w8 ge kJ;have h8:=hh.out w8 ⟨2,s0,false⟩ ge kJ;have s8:=s7.put kJ (.inr (by simp only[gZ,hl];simp[oB];right;right;right;right;right;right;right;right;rfl)) (fun x hx => .inl hx) (H':=_);clear h7 s7 hc ge kJ hy;go_wp2;refine bodyPost_ret (v:=.tuple #[]) (by simp[results,go_sem,results65]) rfl ?_;exact⟨_,rfl,h8,s8.same rfl,⟨rfl,rfl,rfl,rfl,rfl,bH⟩,hH.out P,hA.out _⟩
    go_wp2;refine bodyPost_ret (v:=.tuple #[]) (by simp[results,go_sem,results65]) rfl ?_;exact⟨_,rfl,h3,s3,⟨rfl,rfl,rfl,rfl,rfl,rfl⟩,hm.out,fun _ _ _=>rfl⟩
   rw[decide_eq_false hS];clear hS hc
   go_wp2_with fail
   refine (xP _ B b _ h2).mono ?_;rintro r w3 ⟨P,a3,c3,l3,rfl,h3,s3⟩;rw[nQ] at h3 s3;have bx3:=s3.blkN bx2 hT.out;have s3:=s2.trans s3;clear h2 s2 bx2 hG;have hG:=bx3.cell;unfold iB
   go_wp2_with fail
   refine (fB _ 2 B b _ h3 (by omega)).mono ?_;rintro r w4 ⟨y3,a4,c4,l4,rfl,h4,s4,_,_⟩;rw[nQ] at h4 s4;have bx4:=s4.blkN bx3 hT.out;have s4:=s3.trans s4;clear h3 s3 bx3 hG;have hG:=bx4.cell
   go_wp2_with fail
   refine (DC _ ⟨P,1,y3==1,false,-1,0⟩ B b _ h4 (by have:=ke.out.1;show S.H.m.fs.length≤1000;have e:S.H.ma.m.fs.length=S.H.m.fs.length:=rfl;omega)).mono ?_;rintro r w5 ⟨xf,a5,c5,l5,fs,rfl,h5,s5,gq⟩;rw[nQ] at h5 s5;have bx5:=s5.blkN bx4 hT.out;have hM:=Lib.hid (s5.not bx4.lt hT.out);have s5:=s4.trans s5;clear h4 s4 bx4 hG;rcases gq with ⟨rfl,rfl⟩|⟨f,rfl,hj,hjr,rfl⟩
   ·go_wp2;refine bodyPost_ret (v:=.tuple #[]) (by simp[results,go_sem,results65]) rfl ?_;exact⟨_,rfl,h5,s5,⟨rfl,rfl,rfl,rfl,rfl,rfl⟩,hm.out,fun _ _ _=>rfl⟩
   have gz:f<S.H.m.fs.length:=hj;have kq:S.T.length=S.H.sp.length:=by have:=hm.out.ok.len;rw[this];exact fo _
   have hD:p<S.T.length:=by omega
   have hH:Hid (∀u:Bool,(u=true→gwr=true)→Bd ((S.lst a5 c5 l5).frs (S.H.m.fs.set f ⟨P,1,y3==1,false,-1,0⟩)).H.ma (setL ((S.lst a5 c5 l5).frs (S.H.m.fs.set f ⟨P,1,y3==1,false,-1,0⟩)).T p n ⟨1,f,u⟩)):=Lib.hid fun u hu=>
    hm.out.anonE (X:=⟨P,1,y3==1,false,-1,0⟩) (w:=u) (by rw[←hm.out.ok.len];exact hD) hn kT.out gz hjr ⟨rfl,rfl,rfl,rfl⟩ kL.out rfl hu
   have i:Hid (Jj S ((S.lst a5 c5 l5).frs (S.H.m.fs.set f ⟨P,1,y3==1,false,-1,0⟩))):=Lib.hid ⟨rfl,rfl,rfl,rfl,bH,rfl⟩;have hA:Hid (∀x q j,¬(q=p∧j=n)→fe (setL ((S.lst a5 c5 l5).frs (S.H.m.fs.set f ⟨P,1,y3==1,false,-1,0⟩)).T p n x) q j=fe S.T q j):=Lib.hid fun x q j kb=>by show fe (setL S.T p n x) q j=_;rw[wK hm.out.ok (by rw[←hm.out.ok.len];exact hD) hn,if_neg kb]
   have o:Hid (p<((S.lst a5 c5 l5).frs (S.H.m.fs.set f ⟨P,1,y3==1,false,-1,0⟩)).T.length):=Lib.hid hD;have hI:Hid (∀S' : MW,S'.T=((S.lst a5 c5 l5).frs (S.H.m.fs.set f ⟨P,1,y3==1,false,-1,0⟩)).T→(eU S'.T p).length=64):=Lib.hid fun S' e=>by rw[e];exact hm.out.ok.l64 (by rw[←hm.out.ok.len];exact hD)
   have h5:ed w5 B b ((S.lst a5 c5 l5).frs (S.H.m.fs.set f ⟨P,1,y3==1,false,-1,0⟩)):=h5;have s5:MS w b S w5 ((S.lst a5 c5 l5).frs (S.H.m.fs.set f ⟨P,1,y3==1,false,-1,0⟩)):=s5;have hM:Hid (¬mP b ((S.lst a5 c5 l5).frs (S.H.m.fs.set f ⟨P,1,y3==1,false,-1,0⟩)) w.heap.size):=hM;have g0:(0:Int)≤(f:Int):=by omega
   clear hj hjr hD kq;generalize (S.lst a5 c5 l5).frs (S.H.m.fs.set f ⟨P,1,y3==1,false,-1,0⟩)=S5 at *
   obtain⟨gT,oT,_,hl,_⟩:=ed.ent (S:=S5) h5 (p:=p) (n:=n) o.out hn (hI.out _ rfl);go_upto_region 4 with (fail);cases gwr with
   | true=>
    skip;refine gN 16 [_,_,_,.v (.slice (some ⟨gT,oT,none⟩) S5.T.length S5.cb),_,.v (.int .i64 (n:Int)),_,_,.v (.bool true),_,_,.r 11 ((bW fun v => ∃x:Int,v = .int .i64 x∧0≤x)),.r 12 ((bW fun v => ∃u,v = .bool u)),.r 13 ((bW fun v => ∃u,(u=true→true=true)∧v = .bool u)),.r 14 ((bW fun v => ∃u,(u=true→true=true)∧v = .agg #[.int .i64 1,.int .i64 (f:Int),.bool u])),_] (Me S5 B b w5 [(w.heap.size,#[.bool true,.bool grd,.bool true,.bool false,.int .i64 gfi,.int .i64 (I:Int)],109)]) aD (fun _=>⟨S5.al,S5.cl,S5.l,h5,MS.refl _ _ _,by simpa using ⟨bx5,hM.out⟩⟩) (Qk aD rfl (Qk aD rfl (Qf aD b 12 rfl rfl (ag ?_ (Qk aD rfl (Qk aD rfl (Qk aD rfl (Qf aD w.heap.size 2 rfl rfl (ag ?_ (Qk aD rfl (Qk aD rfl (ag ?_ (ag ?_ (ag ?_ (ag ?_ (Qr aD (.pointer (some ⟨gT,oT+p*192,none⟩)) (fun ρ y W hq=>(bF rfl (aF rfl hq) (aF rfl hq) o.out underlying75 ents_size)) rfl rfl (aC))))))))))))))))) (fun _=>rfl) rfl ?_
    ·intro ρ y W L hw hn s z hb hd;refine eD aD (fun _ _ h=>h) hb ?_;have kY:=hw 26 2 rfl;have h2:y 2=_:=hd 2 rfl;obtain⟨a,c,l,m1,m2,m3⟩:=hb;refine aj (.slice (some ⟨gT,oT,none⟩) S5.T.length S5.cb) (ah rfl) (by simp[execOp,go_sem,kY,h2,m1.blk.cell,iV,MW.lst,hl]) rfl
    ·intro ρ y W L hw hn s z hb hd;refine eD aD (fun _ _ h=>h) hb ?_;have kW:=hw 31 7 rfl;have h7:y 7=_:=hd 7 rfl;obtain⟨a,c,l,m1,m2,m3⟩:=hb;have m3:=(m3 _ (bv.2 rfl)).1;refine aj (.bool true) (ah rfl) (by simp[execOp,go_sem,kW,h7,m3.cell]) rfl
    ·intro ρ y W L hw hn s z hb hd;have gJ:=hw 34 10 rfl;have kh:y 10=_:=hd 10 rfl;have EC:∀v,ρ (.const v)=v:=fun v=>hn (.const v) trivial;have EF:∀f,ρ (.func f) = .func (.func f) #[] #[]:=fun f=>hn (.func f) trivial;refine gU _ _ (bu 9 33 true true rfl rfl ((hw 33 9 rfl).trans (hd 9 rfl))) (aU rfl (EF _) func30 (by kernel_rfl) (by kernel_rfl) (by simp only[bV,bP,bT,gJ,kh,EC,EF];rfl)) ?_;exact zK 2 (by omega) hb fun x h1 _ _ _=>⟨x,rfl,h1⟩
    ·intro ρ y W L hw hn s z hb hd;refine eD aD (fun _ _ h=>h) hb ?_;have gI:=hw 35 11 rfl;have gH:=hd 11 rfl;obtain⟨x,hx,_⟩:=gH;refine aj _ (bu 9 33 true true rfl rfl ((hw 33 9 rfl).trans (hd 9 rfl))) (pF rfl (gI.trans hx) (hn (.const _) trivial) (by simp[go_sem];rfl)) ⟨_,rfl⟩
    ·intro ρ y W L hw hn s z hb hd;refine eD aD (fun _ _ h=>h) hb ?_;have kV:=hw 33 9 rfl;have h9:y 9=_:=hd 9 rfl;have gj:=hw 36 12 rfl;have gi:=hd 12 rfl;obtain⟨u,hu⟩:=gi;refine aj (.bool u) (ah rfl) (pI rfl (kV.trans h9) (by simpa using gj.trans hu)) ⟨_,fun _=>rfl,rfl⟩
    ·intro ρ y W L hw hn s z hb hd;refine eD aD (fun _ _ h=>h) hb ?_;have kX:=hw 30 6 rfl;have h6:y 6=_:=hd 6 rfl;have kU:=hw 37 13 rfl;have hJ:=hd 13 rfl;obtain⟨u,hr,hu⟩:=hJ;have EC:∀v,ρ (.const v)=v:=fun v=>hn (.const v) trivial;refine aj (.agg #[.int .i64 1,.int .i64 (f:Int),.bool u]) (ah rfl) (by simp[execOp,go_sem,kX,h6,kU,EC,hu]) ⟨u,hr,rfl⟩
    intro y W6 hB d;have gO:((bW fun v => ∃x:Int,v = .int .i64 x∧0≤x)).r (y 11) W6:=d 11 (by decide);have gM:((bW fun v => ∃u,v = .bool u)).r (y 12) W6:=d 12 (by decide);have k1:((bW fun v => ∃u,(u=true→true=true)∧v = .bool u)).r (y 13) W6:=d 13 (by decide);have hZ:((bW fun v => ∃u,(u=true→true=true)∧v = .agg #[.int .i64 1,.int .i64 (f:Int),.bool u])).r (y 14) W6:=d 14 (by decide);clear d;obtain⟨a6,c6,l6,h6,s6,_⟩:=hB;obtain⟨u,hr,hu⟩:=hZ;rw[hu];clear hu;obtain⟨gT',oT',curT,hk,hO,hy,hs,_,ha⟩:=ed.ent (S:=S5.lst a6 c6 l6) h6 (p:=p) (n:=n) o.out hn (hI.out _ rfl);have e9:(some (⟨gT',oT',none⟩:Addr))=some ⟨gT,oT,none⟩:=hk.symm.trans hl;cases e9;have hL:(p:Int)<(S5.T.length:Int):=by have:=o.out;omega
    have ka:(n:Int)<64:=by omega
    have hh:=Lib.hid ha;have s6:=s5.trans s6;clear ha hk h5 s5
    go_wp2_with (refine aA rfl _ _ _ rfl gT (oT+p*192+n*3) _ (kS ⟨1,f,u⟩) rfl rfl rfl _ _ hy (by rw[fA];exact hs) (by kernel_rfl) (bS (iO _)) ?_)
    intro w7 hC hi;have h7:=hh.out w7 ⟨1,f,u⟩ hC hi;have s7:=s6.put (H':={ S5.lst a6 c6 l6 with T:=setL (S5.lst a6 c6 l6).T p n ⟨1,f,u⟩ }) hi (.inr (by simp only[gZ,MW.lst,hl];simp[oB];right;right;right;right;right;right;right;right;rfl)) (fun x hx => .inl hx);clear hy hC hi h6 s6;go_wp2;refine bodyPost_ret (v:=.tuple #[]) (by simp[results,go_sem,results65]) rfl ?_;exact⟨_,rfl,h7,s7,⟨i.out.sp,i.out.fi,i.out.ct,i.out.dk,i.out.fl,i.out.sl⟩,hH.out u (fun h=>by first | exact trivial | exact⟨rfl,rfl⟩ | exact absurd (hr h) (by decide) | simp),hA.out _⟩
   | false=>
    skip;refine gN 16 [_,_,_,.v (.slice (some ⟨gT,oT,none⟩) S5.T.length S5.cb),_,.v (.int .i64 (n:Int)),_,_,.v (.bool false),_,_,_,_,.r 13 ((bW fun v => ∃u,(u=true→false=true)∧v = .bool u)),.r 14 ((bW fun v => ∃u,(u=true→false=true)∧v = .agg #[.int .i64 1,.int .i64 (f:Int),.bool u])),_] (Me S5 B b w5 [(w.heap.size,#[.bool true,.bool grd,.bool false,.bool false,.int .i64 gfi,.int .i64 (I:Int)],109)]) aD (fun _=>⟨S5.al,S5.cl,S5.l,h5,MS.refl _ _ _,by simpa using ⟨bx5,hM.out⟩⟩) (Qk aD rfl (Qk aD rfl (Qf aD b 12 rfl rfl (ag ?_ (Qk aD rfl (Qk aD rfl (Qk aD rfl (Qf aD w.heap.size 2 rfl rfl (ag ?_ (Qk aD rfl (Qk aD rfl (Qk aD rfl (Qk aD rfl (ag ?_ (ag ?_ (Qr aD (.pointer (some ⟨gT,oT+p*192,none⟩)) (fun ρ y W hq=>(bF rfl (aF rfl hq) (aF rfl hq) o.out underlying75 ents_size)) rfl rfl (aC))))))))))))))))) (fun _=>rfl) rfl ?_
    ·intro ρ y W L hw hn s z hb hd;refine eD aD (fun _ _ h=>h) hb ?_;have kY:=hw 26 2 rfl;have h2:y 2=_:=hd 2 rfl;obtain⟨a,c,l,m1,m2,m3⟩:=hb;refine aj (.slice (some ⟨gT,oT,none⟩) S5.T.length S5.cb) (ah rfl) (by simp[execOp,go_sem,kY,h2,m1.blk.cell,iV,MW.lst,hl]) rfl
    ·intro ρ y W L hw hn s z hb hd;refine eD aD (fun _ _ h=>h) hb ?_;have kW:=hw 31 7 rfl;have h7:y 7=_:=hd 7 rfl;obtain⟨a,c,l,m1,m2,m3⟩:=hb;have m3:=(m3 _ (bv.2 rfl)).1;refine aj (.bool false) (ah rfl) (by simp[execOp,go_sem,kW,h7,m3.cell]) rfl
    ·intro ρ y W L hw hn s z hb hd;refine eD aD (fun _ _ h=>h) hb ?_;have kV:=hw 33 9 rfl;have h9:y 9=_:=hd 9 rfl;have gj:=hw 36 12 rfl;have gi:y 12=_:=hd 12 rfl;refine aj (.bool false) (ah rfl) (pI rfl (kV.trans h9) (by exact (hn (.const _) trivial).trans rfl)) ⟨false,fun h=>(by cases h),rfl⟩
    ·intro ρ y W L hw hn s z hb hd;refine eD aD (fun _ _ h=>h) hb ?_;have kX:=hw 30 6 rfl;have h6:y 6=_:=hd 6 rfl;have kU:=hw 37 13 rfl;have hJ:=hd 13 rfl;obtain⟨u,hr,hu⟩:=hJ;have EC:∀v,ρ (.const v)=v:=fun v=>hn (.const v) trivial;refine aj (.agg #[.int .i64 1,.int .i64 (f:Int),.bool u]) (ah rfl) (by simp[execOp,go_sem,kX,h6,kU,EC,hu]) ⟨u,hr,rfl⟩
    intro y W6 hB d;have k1:((bW fun v => ∃u,(u=true→false=true)∧v = .bool u)).r (y 13) W6:=d 13 (by decide);have hZ:((bW fun v => ∃u,(u=true→false=true)∧v = .agg #[.int .i64 1,.int .i64 (f:Int),.bool u])).r (y 14) W6:=d 14 (by decide);clear d;obtain⟨a6,c6,l6,h6,s6,_⟩:=hB;obtain⟨u,hr,hu⟩:=hZ;rw[hu];clear hu;obtain⟨gT',oT',curT,hk,hO,hy,hs,_,ha⟩:=ed.ent (S:=S5.lst a6 c6 l6) h6 (p:=p) (n:=n) o.out hn (hI.out _ rfl);have e9:(some (⟨gT',oT',none⟩:Addr))=some ⟨gT,oT,none⟩:=hk.symm.trans hl;cases e9;have hL:(p:Int)<(S5.T.length:Int):=by have:=o.out;omega
    have ka:(n:Int)<64:=by omega
    have hh:=Lib.hid ha;have s6:=s5.trans s6;clear ha hk h5 s5
    go_wp2_with (refine aA rfl _ _ _ rfl gT (oT+p*192+n*3) _ (kS ⟨1,f,u⟩) rfl rfl rfl _ _ hy (by rw[fA];exact hs) (by kernel_rfl) (bS (iO _)) ?_)
    intro w7 hC hi;have h7:=hh.out w7 ⟨1,f,u⟩ hC hi;have s7:=s6.put (H':={ S5.lst a6 c6 l6 with T:=setL (S5.lst a6 c6 l6).T p n ⟨1,f,u⟩ }) hi (.inr (by simp only[gZ,MW.lst,hl];simp[oB];right;right;right;right;right;right;right;right;rfl)) (fun x hx => .inl hx);clear hy hC hi h6 s6;go_wp2;refine bodyPost_ret (v:=.tuple #[]) (by simp[results,go_sem,results65]) rfl ?_;exact⟨_,rfl,h7,s7,⟨i.out.sp,i.out.fi,i.out.ct,i.out.dk,i.out.fl,i.out.sl⟩,hH.out u (fun h=>by first | exact trivial | exact⟨rfl,rfl⟩ | exact absurd (hr h) (by decide) | simp),hA.out _⟩
def PP (B:Nat):mg:=⟨fun v w => ∃g,v = .pointer (some ⟨g,0,none⟩)∧aB w g (fC f0) 110∧B≤g,fun _ _ _ hb ⟨g,h1,h2,h3⟩=>⟨g,h1,h2.ext hb,h3⟩⟩
theorem Oh {l:List mg} (hp:l.getD q anyR=PP B) (hq:l.getD p anyR=PP B):FZ (rl l) p q i (.pointer (some ⟨w.heap.size,0,none⟩)) w:=by
 refine JZ (fun u hu => ?_) (fun u hu => ?_)
 ·unfold rl at hu;rw[hp] at hu;obtain⟨g,h1,h2,_⟩:=hu;exact⟨g,_,_,h1,h2⟩
 unfold rl at hu;rw[hq] at hu;obtain⟨g,h1,h2,_⟩:=hu;exact⟨g,_,_,h1,h2⟩
theorem DW {l:List mg} (v:Value) (hw:Region.wanted o (gI ρ ops)=true) (hrun:(execOp ρ o).run P w = .ok (.value v) w') (hb:Below w.heap.size w w') (hR:rl l i v w') (hN:FZ (rl l) p q i v w) :
  if Region.wanted o (gI ρ ops)=true then dM P o ρ w (fun v w'=>(Below w.heap.size w w'∧rl l i v w')∧FZ (rl l) p q i v w) else rl l i undef w∧i≠p∧i≠q:=by
 rw[if_pos hw];unfold dM;rw[hrun];exact⟨⟨hb,hR⟩,hN⟩
theorem Tf (l:List Ar) (x:Ar) (a:Option Addr) (c:Nat) (w:World) (h:VX w a c l) :
  Calls Tryz.prog 64 #[.slice a l.length c,.agg (nX x)] w fun r w' => ∃v,r = .returned (.tuple #[v,.int .i64 (AO l x)])∧Own w' w.heap.size 99 7 v (yg l x).length ((yg l x).flatMap mM)∧Below w.heap.size w w':=by
 go_enter func64,ntmps64;go_upto_region 1 with (fail);refine gB (fun W=>Code.wp _ _ _ _ W) fun W0 hT h5 km => ?_;clear km
 go_wp2_with fail
 refine (EM l a c _ (h.below hT)).mono ?_;rintro r w1 ⟨rfl,ha⟩;have hs:=ae hT ha;have h4:=h5.ext ha;clear hT h5 ha;unfold Kr
 go_wp2_with (refine aI rfl _ _ _ rfl #[.int .i64 (bI l).1,.int .i64 (bI l).2] rfl rfl rfl fau_size (mO _ _) ?_)
 intro w2 hS hv;have b:=ae hs hS;have hL:=h4.ext hS;clear hs h4 hS
 by_cases hw:(bI l).1=0
 ·have ht:=jI.1 hw;have hM:=Lib.hid hw;have hc:=nM ht.2;rw[hw] at hv;have ka:=hv.cell;clear hw
  go_wp2_with (refine ax _ _ rfl _ 0 rfl rfl _ hL.rd _ underlying99 rfl area_size ?_)
  refine (Fy x _).mono ?_;rintro r w3 ⟨rfl,hR⟩;have b:=ae b hR;have hZ:=hL.ext hR;clear ka hv hL hR
  by_cases he:aQ x=0
  ·have o:=Lib.hid he;rw[he];clear he;go_upto_region 7 with (fail);refine RI 7 5 6 [ul (.slice a l.length c),ul (.agg (fC (cz l))),ul (.agg (nX x)),(WT x),ul (.agg (fC (cz [x]))),(PP w.heap.size),(PP w.heap.size)] (by kernel_rfl) (by decide) (by decide) (by decide) _ rfl (by kernel_rfl) (by kernel_rfl) (by decide) _ rfl (by kernel_rfl) (ag (ui (by decide) (by decide) (Xg (Xa rfl) (Xe rfl (Xf rfl rfl) rfl))) (ag ?_ (ag ?_ (ag ?_ (ag ?_ (ag ?_ (ag ?_ (aC)))))))) ?_
   ·refine ui (by decide) (by decide) ?_;intro ρ y W hw hn hb hd;have kt:=hw 23 0 rfl;have h0:y 0=_:=hd 0 rfl;have EF:∀f,ρ (.func f) = .func (.func f) #[] #[]:=fun f=>hn (.func f) trivial;refine aR _ _ (ah rfl) (aU rfl (EF _) func49 (by kernel_rfl) (by kernel_rfl) (by simp only[bV,bP,bT,kt,h0,EF];rfl)) ?_;refine (qU l a c W (h.below (ae b hb)).rd (by omega) (fun x hx=>(srtF_ok hc x hx).1)).mono ?_;rintro r w1 ⟨rfl,ha⟩;exact⟨_,rfl,ha,rfl⟩
   ·refine ui (by decide) (by decide) ?_;intro ρ y W hw hn hb hd;have E3:ρ (.tmp 3) = .pointer (some ⟨w.heap.size,0,none⟩):=(hn (.tmp 3) rfl).trans rfl;refine aj (.agg (nX x)) (ah rfl) (dL rfl E3 (hZ.ext hb) underlying99 rfl area_size) rfl
   ·refine ui (by decide) (by decide) ?_;intro ρ y W hw hn hb hd;have ks:=hw 25 2 rfl;have h2:y 2=_:=hd 2 rfl;refine jU (.slice (some ⟨W.heap.size,0,none⟩) 1 1) (ah rfl) (by simp[execOp,go_sem,bX,ks,h2,nX]) ((Below.refl _ _).alloc (ay _) (.cells (nX x) 99)) ?_;exact⟨_,rfl,aB.new _ _ _⟩
   ·refine ui (by decide) (by decide) ?_;intro ρ y W hw hn hb hd;have kr:=hw 26 3 rfl;have h3:=hd 3 rfl;have EF:∀f,ρ (.func f) = .func (.func f) #[] #[]:=fun f=>hn (.func f) trivial;obtain⟨gq,ko,kn⟩:=h3;refine aR _ _ (ah rfl) (aU rfl (EF _) func49 (by kernel_rfl) (by kernel_rfl) (by simp only[bV,bP,bT,kr,EF,ko];rfl)) ?_;refine (qU [x] _ 1 W (fun j u hj=>kn.rd j u (by simpa[mM] using hj)) (by simp) (fun z hz=>by rw[bv.1 hz];exact o.out)).mono ?_;rintro r w1 ⟨rfl,ha⟩;exact⟨_,rfl,ha,rfl⟩
   ·intro ρ y W hw hn hb hd;refine DW (.pointer (some ⟨W.heap.size,0,none⟩)) (ah rfl) (w':=W.alloc (.cells (fC f0) 110)) ?_ ((Below.refl _ _).alloc (ay _) _) ⟨_,rfl,aB.new _ _ _,(ae b hb).size⟩ (Oh rfl rfl);simp[execOp,go_sem,bX,bX];rfl
   ·intro ρ y W hw hn hb hd;refine DW (.pointer (some ⟨W.heap.size,0,none⟩)) (ah rfl) (w':=W.alloc (.cells (fC f0) 110)) ?_ ((Below.refl _ _).alloc (ay _) _) ⟨_,rfl,aB.new _ _ _,(ae b hb).size⟩ (Oh rfl rfl);simp[execOp,go_sem,bX,bX];rfl
   intro y WA hH d hB;have hW:y 1=_:=d 1 (by decide);have hV:y 4=_:=d 4 (by decide);have kl:=d 3 (by decide);have kk:((PP w.heap.size)).r (y 5) WA:=d 5 (by decide);have kj:((PP w.heap.size)).r (y 6) WA:=d 6 (by decide);clear d;simp only[lay,bU,bX,bP,bT,Nat.reduceAdd,Nat.reduceLT,decide_true,decide_false,if_true,uQ,if_false,Cf,qC,uZ,zz,CZ,Ab,hW,hV];clear hW hV;obtain⟨gX,hK,kc,h9⟩:∃g,y 5 = .pointer (some ⟨g,0,none⟩)∧aB WA g (fC f0) 110∧w.heap.size≤g:=kk;obtain⟨gY,hJ,kb,kp⟩:∃g,y 6 = .pointer (some ⟨g,0,none⟩)∧aB WA g (fC f0) 110∧w.heap.size≤g:=kj;have hU:gX≠gY:=fun e=>hB (by rw[hK,hJ,e]);simp only[hK,hJ];have s:=ae b hH;clear kl hK hJ hB b hZ hH;go_upto_region 8 with (refine az rfl _ _ _ rfl gX (fC (cz l)) rfl rfl _ _ kc (by rw[jq,jq]) (by rw[jq];exact ones_size) (zU _) ?_);intro W5 ki hm;have t:=s.grown hm s.size (fun k hk=>by cases hk;exact h9);have kf:aB W5 gY (fC f0) 110:=kb.grown hm (fun e=>hU (aJ e));clear s kc kb hm;go_upto_region 8 with (refine az rfl _ _ _ rfl gY (fC (cz [x])) rfl rfl _ _ kf (by rw[jq,jq]) (by rw[jq];exact ones_size) (zU _) ?_);intro W6 ke hl;have hr:=t.grown hl t.size (fun k hk=>by cases hk;exact kp);have kh:aB W6 gX (fC (cz l)) 110:=ki.grown hl (fun e=>hU (aJ e).symm);clear t ki kf hl;go_upto_region 9 with (fail)
   go_loopw [28] (fun i wr => ∃n:Nat,n≤64∧i = .int .i64 n∧Below w.heap.size w wr∧aB wr gX (fC (sZ x n (cz l))) 110∧aB wr gY (fC (cz [x])) 110∧∀i:Nat,i<n→¬(nZ (i:Int) x=true∧onA l i≠none)) (fun i _=>64-(intOf i).toNat)
   case atStart=>exact⟨0,by omega,rfl,hr,by rw[Mg];exact kh,ke,fun i hi=>absurd hi (dV _)⟩
   case round=>
    clear hr kh ke;obtain⟨n,hn,rfl,m,hX,hY,hE⟩:=hrel;have hO:=Lib.hid hE;clear hE
    by_cases hlt:n<64
    ·have ku:(n:Int)<64:=by omega
     have dX:wr.cell? ⟨gX,n*6,none⟩=some (.bool (onA l n).isSome):=by rw[hX.cell];exact zw (sZ x n (cz l)) n 0 hlt _ (by rw[UR,qZ hc];rfl) (by decide)
     have dY:wr.cell? ⟨gY,n*6,none⟩=some (.bool (cz [x] n).isSome):=by rw[hY.cell];exact zw (cz [x]) n 0 hlt _ rfl (by decide)
     rw[Td] at dY
     by_cases hin:nZ (n:Int) x=true
     ·rw[if_pos hin] at dY;cases hon:onA l (n:Int) with
      | some p=>
       rw[hon] at dX;simp only[Option.isSome] at dX dY;have q0:Hid _:=Lib.hid (Io (l:=l) (x:=x) (e:=6) (by unfold AO;rw[if_neg (by rw[hM.out];simp),if_neg (by rw[o.out];simp),if_pos (Tj hin (by rw[hon];simp))]) (by decide));have b:=m;clear hin hon;go_wp2;go_ret2;have q:=q0.out;exact⟨.slice none 0 0,by first | (rw[q.1];done) | (rw[q.1];rfl),by rw[q.2];exact Own.nil _ _ _ _,b⟩
      | none=>
       rw[hon] at dX;simp only[Option.isSome] at dX dY;have hC:Hid (bB (fC (sZ x n (cz l))) (n*6) (qc (some (jW x n)))=fC (sZ x (n+1) (cz l))):=Lib.hid (by rw[QU _ n hlt,Ta hin]);have hD:dP wr (some ⟨gY,n*6,none⟩) (qc (some (jW x n))):=fun j u hj=>⟨gY,n*6,rfl,by
        rw[hY.cell];exact zw (cz [x]) n j hlt u (by rw[Td,if_pos hin];exact hj) (by have:=(cK.1 hj).1;rwa [nK] at this)⟩
       have hu:Hid (∀i:Nat,i<n+1→¬(nZ (i:Int) x=true∧onA l i≠none)):=Lib.hid (fun i hi hq=>by
        by_cases c:i=n
        ·subst c;exact hq.2 hon
        ·exact hO.out i (by omega) hq)
       have hF:Hid (n*6+6≤(fC (sZ x n (cz l))).size):=Lib.hid (by rw[jq];omega);clear hin hon;go_upto_region 15 with (first | (refine ax _ _ rfl _ (n*6) rfl rfl _ hD _ underlying109 rfl one_size ?_) | (refine gP rfl _ _ _ rfl gX (n*6) (xV (some (jW x n))) rfl rfl _ _ hX hF.out one_size (RN _) ?_));intro W7 kg hh;have hy:aB W7 gX (fC (sZ x (n+1) (cz l))) 110:=by rw[←hC.out];exact kg
       have hQ:=m.grown hh m.size (fun k hk=>by cases hk;exact h9);have kq:aB W7 gY (fC (cz [x])) 110:=hY.grown hh (fun e=>hU (aJ e));clear hX hY m kg hh dX dY hD hC hF;go_wp2;go_roundw
       case rel=>exact⟨n+1,by omega,by go_num,hQ,hy,kq,hu.out⟩
       case measure=>simp[intOf];omega
     rw[if_neg hin] at dY;simp only[Option.isSome] at dY;have hu:Hid (∀i:Nat,i<n+1→¬(nZ (i:Int) x=true∧onA l i≠none)):=Lib.hid (fun i hi hq=>by
      by_cases c:i=n
      ·subst c;exact hin hq.1
      ·exact hO.out i (by omega) hq)
     have hy:aB wr gX (fC (sZ x (n+1) (cz l))) 110:=by rw[Oz hin];exact hX
     clear hin hX;cases hsX:(onA l (n:Int)).isSome
     ·rw[hsX] at dX;clear hsX;go_wp2;go_roundw
      case rel=>exact⟨n+1,by omega,by go_num,m,hy,hY,hu.out⟩
      case measure=>simp[intOf];omega
     rw[hsX] at dX;clear hsX;go_wp2;go_roundw
     case rel=>exact⟨n+1,by omega,by go_num,m,hy,hY,hu.out⟩
     case measure=>simp[intOf];omega
    have h6:n=64:=by omega
    subst h6;have hI:=TL ht.2 o.out hO.out;have h7:∀z∈l,pX x z=false:=fun z hz=>by have:=tY.1 hI z hz;simpa using this
    have hg:=Di o.out hc (bD o.out).1.2.1.1 h7;rw[←CY] at hg;have hG:Hid (AO l x=Dc (rY (EP l x)).length):=Lib.hid (by unfold AO;rw[if_neg (by rw[hM.out];simp),if_neg (by rw[o.out];simp),if_neg (by rw[hI];simp)];rfl);have h8:Hid (yg l x=if 16<(rY (EP l x)).length then [] else rY (EP l x)):=Lib.hid (by
     unfold yg;rw[hG.out];unfold Dc
     by_cases h16:16<(rY (EP l x)).length
     ·rw[if_pos h16,if_pos h16];rfl
     ·rw[if_neg h16,if_neg h16];rfl)
    have hN:Hid ((fC (sZ x 64 (cz l))).size=384):=Lib.hid (jq _);clear hlt
    go_wp2_with (refine ax _ _ rfl _ 0 rfl rfl _ hX.rd _ underlying110 rfl (by rw[iI,hN.out];exact ones_size) ?_)
    refine (Uu (sZ x 64 (cz l)) (rY (EP l x)) (Ib hg) (fun i hi => ?_) (fun i p hp => ?_) _).mono ?_
    ·rw[Ir hg,CY,IA o.out _ hc h7];unfold sZ;rw[qZ hc]
     by_cases c:nZ (i:Int) x=true
     ·rw[if_pos ⟨c,hi⟩,if_pos c]
     ·rw[if_neg (fun q=>c q.1),if_neg c]
    ·unfold sZ at hp;split at hp
     ·rename_i hq;cases hp;have h1:=NE o.out hq.1;refine⟨h1.2.2.1,?_⟩
      by_cases hf:(jW x i).fi<0
      ·rw[(h1.2.2.2.1 hf).1];decide
      ·have:=h1.2.2.2.2 (by omega);omega
     ·exact JW hc i p hp
    rintro r w9 ⟨v9,rfl,hA,kd⟩;have hP:=ae m kd;replace hA:=hA.mono m.size;rw[←h8.out] at hA;rw[←hG.out];clear m hX hY kd h8;go_wp2;go_ret2;exact⟨v9,rfl,hA,hP⟩
  have q0:Hid _:=Lib.hid (Io (l:=l) (x:=x) (e:=aQ x) (by unfold AO;rw[if_neg (by rw[hM.out];simp),if_pos he]) he);have kw : (aQ x != 0)=true:=by simpa using he
  clear he ht;go_wp2;go_ret2;have q:=q0.out;exact⟨.slice none 0 0,by first | (rw[q.1];done) | (rw[q.1];rfl),by rw[q.2];exact Own.nil _ _ _ _,b⟩
 have q0:Hid _:=Lib.hid (Io (l:=l) (x:=x) (e:=(bI l).1) (by unfold AO;rw[if_pos hw]) hw);have kv : ((bI l).1 != 0)=true:=by simpa using hw
 have ka:=hv.cell;clear hw;go_upto_region 3 with (fail);go_quiet (fail);rename_i nq;have b:=below_drewN b nq;go_wp2;go_ret2;have q:=q0.out;exact⟨.slice none 0 0,by first | (rw[q.1];done) | (rw[q.1];rfl),by rw[q.2];exact Own.nil _ _ _ _,b⟩
theorem Py {l:List Ar} {x:Ar} (h:AO l x=0):(l.length≤16∧okF none l)∧aQ x=0∧(∀a∈l,pX x a=false)∧(rY (EP l x)).length≤16∧yg l x=rY (EP l x):=by
 have h0:=h;unfold AO at h
 by_cases hw:(bI l).1=0
 ·rw[if_neg (by omega)] at h
  by_cases he:aQ x=0
  ·rw[if_neg (by omega)] at h;cases hm:l.any (pX x)
   ·rw[hm,if_neg (by simp)] at h;refine⟨jI.1 hw,he,fun a ha => ?_,?_,?_⟩
    ·have:=tY.1 hm a ha;simpa using this
    ·split at h
     ·omega
     ·omega
    ·unfold yg;rw[if_neg (by omega)]
   ·rw[hm,if_pos rfl] at h;omega
  ·rw[if_pos he] at h;exact absurd h he
 ·rw[if_pos hw] at h;exact absurd h hw
theorem LQ {l:List Ar} {x:Ar} (h:AO l x=0):(yg l x).length≤16∧okF none (yg l x)∧∀n,onA (yg l x) n=if nZ n x then some (jW x n) else onA l n:=by
 obtain⟨⟨h1,h2⟩,h3,h4,h5,h6⟩:=Py h;have hs:=nM h2;have hx:=(bD h3).1.2.1.1;have hi:=Di h3 hs hx h4;rw[h6];rw[CY] at h5 ⊢;exact⟨h5,Ib hi,fun n=>by rw[Ir hi,IA h3 n hs h4]⟩
def Oc (S:MW):Prop:=∀p∈S.H.sp,∀n g,onA p.ar n=some g→g.fi<S.H.fi.length
structure More (S S' : MW):Prop where
 bd:Bd S'.H.ma S'.T
 fm:Oc S'
 fi:S'.H.fi=S.H.fi
 ct:S'.H.ct=S.H.ct
 dk:S'.H.dk=S.H.dk
 sp:S'.H.sp.length=S.H.sp.length+1
 fs:S'.H.m.fs.length=S.H.m.fs.length
def SpaceR (S:MW) (B b:Nat) (w:World) (r:Ending) (w' : World):Prop:=∃S',r = .returned (.tuple #[])∧ed w' B b S'∧MS w b S w' S'∧More S S' ∧
 (S.l=[]→S'.l=[]∧S'.H.ma = { S.H.ma with sp:=S.H.ma.sp++[⟨true,[],zTb⟩] }∧S'.T=S.T++[List.replicate 64 zEn])
theorem ed.kb_ne (h:ed w B b S) {x:Nat} (hk:aB w x cs T)
 (hT:T≠77∧T≠81∧T≠3∧T≠79∧T≠86∧T≠67∧T≠106∧T≠55∧T≠90):¬mP b S x:=by
 obtain⟨t1,t2,t3,t4,t5,t6,t7,t8,t9⟩:=hT;have own:∀ {e:TypeId} {sz n c:Nat} {a:Option Addr} {xs:List Value},T≠e→Own w B e sz (.slice a n c) n xs→oB a=some x→False:=fun ht ho hx=>by obtain⟨_,cs',h2⟩:=iQ ho hx;exact lQ hk h2 ht rfl
 intro hx;rcases hx with hx|hx
 ·subst hx;exact lQ hk h.blk t1 rfl
 simp only[gZ,bZ,fP,or_false] at hx;rcases hx with hx|hx|hx|hx|hx|hx|hx|hx|hx
 ·exact own t2 h.ma.fr hx.symm
 ·exact own t3 h.ma.sl hx.symm
 ·exact own t4 h.ma.sw.b hx.symm
 ·exact own t4 h.ma.dk.b hx.symm
 ·exact own t5 h.ma.dk.q hx.symm
 ·exact own t6 h.ma.st.own hx.symm
 ·exact own t7 h.ma.ca hx.symm
 ·exact own t8 h.ma.sp hx.symm
 ·exact own t9 h.tt hx.symm
theorem ed.own_not (h:ed w B b S) (ho:Own w B' e sz (.slice a n c) n xs)
 (hT:e≠77∧e≠81∧e≠3∧e≠79∧e≠86∧e≠67∧e≠106∧e≠55∧e≠90):∀x,(Value.slice a n c).ownBlock=some x→¬mP b S x:=fun x hx=>by
 obtain⟨cs,hk⟩:=kQ ho x hx;exact h.kb_ne hk hT
theorem ed.locA (h:ed w B b S) (hk:aB w g cs 99) (hn:¬mP b S g) (hsp:∀p∈S.H.sp,oB p.aa≠some g) (hgB:B≤g) (hg:w.grownBy w' (some g)):ed w' B b S:=by
 have d:∀ {a:Option Addr},oB a∈gZ S→∀n c g',(Value.slice a n c).ownBlock=some g'→some g≠some g':=fun hm n c g' he e=>by cases e;rw[lK] at he;exact hn (.inr (by rw[←he];exact hm))
 exact⟨h.blk.grown hg (fun e=>hn (.inl (aJ e))),h.ge,⟨h.ma.fr.grown hg (d (by simp[gZ]) _ _),h.ma.sl.grown hg (d (by simp[gZ]) _ _),⟨h.ma.sw.b.grown hg (d (by simp[gZ]) _ _),h.ma.sw.q.grown hg (fun g' he=>by rw[h.n3] at he;cases he)⟩,⟨h.ma.dk.b.grown hg (d (by simp[gZ]) _ _),h.ma.dk.q.grown hg (d (by simp[gZ]) _ _)⟩,
  ⟨h.ma.st.own.grown hg (d (by simp[gZ]) _ _),fun i p hp=>ak (h.ma.st.each i p hp) hk (by decide) hg,h.ma.st.apart⟩,h.ma.ca.grown hg (d (by simp[gZ]) _ _),h.ma.sp.grown hg (d (by simp[gZ]) _ _),fun p hp=>⟨(h.ma.ps p hp).1.grown hg (fun g' he e=>by cases e;rw[lK] at he;exact hsp p hp he),(h.ma.ps p hp).2.keep hk (by decide) hg⟩,h.ma.c64⟩,
  h.tt.grown hg (d (by simp[gZ]) _ _),h.rd.keep h.ra h.bs hg hgB,h.ra,h.n1,h.n2,h.n3⟩
theorem ed.newA (h:ed w B b S) {x:Nat} (hx:w.heap.size≤x):∀p∈S.H.sp,oB p.aa≠some x:=fun p hp he=>by
 have:=(iQ (h.ma.ps p hp).1 he).2.choose_spec.lt;omega
def LK (S:MW) (B b:Nat) (w:World) (i:Nat) (cs:Array Value) (T:TypeId):(Nat→Bool)→(Nat→Value)→World→Prop:=fun L y W=>
 Me S B b w [] L y W∧(L i=true→∃g,y i = .pointer (some ⟨g,0,none⟩)∧aB W g cs T∧¬mP b S g∧w.heap.size≤g)
theorem jm :∀L y W W',Below W.heap.size W W'→LK S B b w i cs T L y W→LK S B b w i cs T L y W':=
 fun _ _ _ _ hb ⟨h1,h2⟩=>⟨aD _ _ _ _ hb h1,fun hL=>by obtain⟨g,e1,e2,e3⟩:=h2 hL;exact⟨g,e1,e2.ext hb,e3⟩⟩
theorem Ro (h0:ed w B b S) (h:LK S B b w i cs T L y W):LK S B b w i cs T (cO L i) (dG y i (.pointer (some ⟨W.heap.size,0,none⟩))) (W.alloc (.cells cs T)):=by
 have hs:w.heap.size≤W.heap.size:=by obtain⟨⟨a,c,l,h1,h2,h3⟩,_⟩:=h;exact h2.size
 exact⟨aD _ _ _ _ ((Below.refl _ _).alloc (ay _) _) h.1,fun _=>⟨W.heap.size,by unfold dG;rw[if_pos rfl],aB.new _ _ _,h0.new hs,hs⟩⟩
theorem xh {y' : Value→Nat→Value} (hL:L' i=L i) (hy:∀v,y' v i=y i) (n:Int) (hn : -9223372036854775808≤n∧n≤9223372036854775807) (h:LK S B b w i cs T L y W) {R:Value→World→Prop} (hR:∀x:Int,0≤x→x<256→(x<n∨x=0)→∀W',R (.int .i64 x) W') :
  Calls Tryz.prog 30 #[.pointer (some ⟨b,0,none⟩),.int .i64 n] W fun e W' => ∃v,e = .returned v∧LK S B b w i cs T L' (y' v) W'∧R v W':=by
 obtain⟨⟨a,c,l,h1,h2,h3⟩,h4⟩:=h;refine (fB _ n B b W h1 hn).mono ?_;rintro r W' ⟨x,a',c',l',rfl,k1,k2,k3,_⟩;exact⟨_,rfl,⟨⟨a',c',l',k1,h2.trans k2,fun t ht=>(by cases ht)⟩,fun hl=>by obtain⟨g,e1,e2,e3,e4⟩:=h4 (by rw[←hL];exact hl);exact⟨g,by rw[hy];exact e1,k2.blkN e2 e3,e3,e4⟩⟩,hR x k3.1 k3.2.1 k3.2.2 W'⟩
theorem ru (ho:Own w B e sz (.slice a n c) n xs) (hg:w.grownBy w' (Value.slice a n c).ownBlock):Below w.heap.size w w'∨∃g cs,aB w g cs e∧oB a=some g∧w.grownBy w' (some g):=by
 cases h:(Value.slice a n c).ownBlock with
 | none=>rw[h] at hg;exact .inl (jZ hg)
 | some g=>
  rw[h] at hg;obtain⟨cs,hk⟩:=kQ ho g h;exact .inr ⟨g,cs,hk,by rw[←lK a n c];exact h,hg⟩
theorem ed.appP (h:ed w B b S) (hg:w.grownBy w1 (Value.slice S.H.ap S.H.sp.length S.H.cp).ownBlock) {l:List PS} (ho:Own w1 B 55 10 (.slice a l.length c) l.length (l.flatMap sW))
 (hp:∀p∈l,Own w1 B 99 7 (.slice p.aa p.ar.length p.ac) p.ar.length (p.ar.flatMap mM)∧qG w1 B (nP p.ts) p.tb) (hb:aB w2 b (bB (iV S) 11 [.slice a l.length c]) 77) (hg2:w1.grownBy w2 (some b)) :
  ed w2 B b { S with H:={ S.H with ap:=a,cp:=c,sp:=l } }:=by
 have key:aB w1 b (iV S) 77∧Own w1 B 81 13 (.slice S.H.af S.H.m.fs.length S.H.cf) S.H.m.fs.length (S.H.m.fs.flatMap qf)∧Own w1 B 3 1 (.slice S.H.asl S.H.sl.length S.H.csl) S.H.sl.length (S.H.sl.map fT) ∧
   il w1 B (.slice S.H.wb S.H.sw.blocks.length S.H.cwb) (.slice S.H.wq S.H.sw.queue.length S.H.cwq) S.H.sw∧il w1 B (.slice S.H.db S.H.dk.blocks.length S.H.cdb) (.slice S.H.dq S.H.dk.queue.length S.H.cdq) S.H.dk∧nW w1 B (.slice S.H.ai S.H.fi.length S.H.ci) S.H.fi ∧
   Own w1 B 106 3 (.slice S.H.ac S.H.ca.length S.H.cc) S.H.ca.length (S.H.ca.flatMap mD)∧Own w1 B 90 192 (.slice S.ab S.T.length S.cb) S.T.length (S.T.flatMap tL)∧uk w1 S.al S.cl S.l.length (S.l.map yO):=by
  rcases ru h.ma.sp hg with hb0|⟨g,cs,hk,hga,hg'⟩
  ·have h1:=h.below hb0;exact⟨h1.blk,h1.ma.fr,h1.ma.sl,h1.ma.sw,h1.ma.dk,h1.ma.st,h1.ma.ca,h1.tt,h1.rd⟩
  ·exact⟨bq h.blk hk (by decide) hg',ak h.ma.fr hk (by decide) hg',ak h.ma.sl hk (by decide) hg',h.ma.sw.keep hk (by decide) (by decide) hg',h.ma.dk.keep hk (by decide) (by decide) hg',h.ma.st.keep hk (by decide) (by decide) hg',ak h.ma.ca hk (by decide) hg',ak h.tt hk (by decide) hg',h.rd.keep h.ra h.bs hg' (iQ h.ma.sp hga).1⟩
 obtain⟨k0,k1,k2,k3,k4,k5,k6,k7,k8⟩:=key;exact⟨hb,h.ge,⟨ak k1 k0 (by decide) hg2,ak k2 k0 (by decide) hg2,k3.keep k0 (by decide) (by decide) hg2,k4.keep k0 (by decide) (by decide) hg2,k5.keep k0 (by decide) (by decide) hg2,ak k6 k0 (by decide) hg2,ak ho k0 (by decide) hg2,fun p d=>⟨ak (hp p d).1 k0 (by decide) hg2,(hp p d).2.keep k0 (by decide) hg2⟩,h.ma.c64⟩,
  ak k7 k0 (by decide) hg2,k8.keep h.ra (bi h.ge (qz k0.lt)) hg2 h.ge,h.ra,h.n1,h.n2,h.n3⟩
theorem ed.appT (h:ed w B b S) (hg:w.grownBy w1 (Value.slice S.ab S.T.length S.cb).ownBlock) {T:List (List En)} (ho:Own w1 B 90 192 (.slice a T.length c) T.length (T.flatMap tL))
 (hb:aB w2 b (bB (iV S) 12 [.slice a T.length c]) 77) (hg2:w1.grownBy w2 (some b)):ed w2 B b { S with ab:=a,cb:=c,T:=T }:=by
 have key:aB w1 b (iV S) 77∧tu w1 B S.H∧uk w1 S.al S.cl S.l.length (S.l.map yO):=by
  rcases ru h.tt hg with hb0|⟨g,cs,hk,hga,hg'⟩
  ·have h1:=h.below hb0;exact⟨h1.blk,h1.ma,h1.rd⟩
  ·exact⟨bq h.blk hk (by decide) hg',h.ma.keep hk (by decide) hg',h.rd.keep h.ra h.bs hg' (iQ h.tt hga).1⟩
 obtain⟨k0,k1,k2⟩:=key;exact⟨hb,h.ge,k1.keep k0 (by decide) hg2,ak ho k0 (by decide) hg2,k2.keep h.ra (bi h.ge (qz k0.lt)) hg2 h.ge,h.ra,h.n1,h.n2,h.n3⟩
theorem MS.app (h:MS w0 b S0 w S) (hm:ed w B b S) (ho:Own w B' e sz (.slice a n c) n xs) (hk:oB a∈gZ S) (hg:w.grownBy w1 (Value.slice a n c).ownBlock) (hg2:w1.grownBy w2 (some b)) (hbn:oo w (.slice a n c) (.slice a' n' c'))
 (hn:∀x,mP b S' x→mP b S x∨oB a' = some x):MS w0 b S0 w2 S':=by
 have h1:MS w0 b S0 w1 S:=by
  rcases ru ho hg with hb0|⟨g,cs,_,hga,hg'⟩
  ·exact h.below hb0
  ·exact h.put hg' (.inr (by rw[←hga];exact hk)) (fun x hx => .inl hx)
 refine h1.put hg2 (.inl rfl) fun x hx => ?_;rcases hn x hx with hx|hx
 ·exact .inl hx
 rcases hbn with e1|e1
 ·rw[lK,lK] at e1;exact .inl (.inr (by rw[←hx,e1];exact hk))
 ·exact .inr (bi h.size (e1 x (by rw[lK];exact hx)))
theorem ents_info:(Tryz.prog.info? 90).map (fun i=>(i.zero,i.size,i.bytes))=some (some (.agg (tL (List.replicate 64 zEn)).toArray),192,1536):=by kernel_rfl
theorem BJ {a:Act} (hg:o.guard=none) (s x:Operand)
 (hop:o.op=Op.call { callee:=Callee.builtin Builtin.append,args:=#[s,x],argTypes:=#[75,75] }) (hcs:cs=(tL (List.replicate 64 zEn)).toArray)
 (B:Nat) (v:Value) (n:Nat) (xs:List Value) (hs:a.eval s=v) (hown:Own w B 90 192 v n xs) (hx:a.eval x = .slice (some ⟨w.heap.size,0,none⟩) 1 1) (hn:n≤100) (hB:B≤w.heap.size)
 (hK:∀v' w',Own w' B 90 192 v' (n+1) (xs++tL (List.replicate 64 zEn))→(w.alloc (.cells (tL (List.replicate 64 zEn)).toArray 90)).grownBy w' v.ownBlock→oo (w.alloc (.cells (tL (List.replicate 64 zEn)).toArray 90)) v v'→wpList Tryz.prog ops Q rest (a.put o.dst v') w') :
  wpList Tryz.prog ops Q (o::rest) a (w.alloc (.cells cs 90)):=by
 subst hcs;exact sM hg s x 75 hop B 90 _ 192 1536 underlying75 ents_info rfl (by decide) v n xs hs (hown.alloc _) (some ⟨w.heap.size,0,none⟩) 1 1 (tL (List.replicate 64 zEn)) hx (fun h=>(by cases h)) (ay _) (yo _) (by simpa using dP.new w (tL (List.replicate 64 zEn)).toArray 90) (by decide +kernel) (by unfold maxLen;omega) (by omega) (cZ hB _) hK
theorem Ep (S:MW) (B b:Nat) (w:World) (h:ed w B b S) (hd:Bd S.H.ma S.T) (hf:Oc S) (hl4:S.H.sp.length<4) :
  Calls Tryz.prog 35 #[.pointer (some ⟨b,0,none⟩)] w (SpaceR S B b w):=by
 have kI:=Lib.hid hd;have gl:=Lib.hid hf;have g0:=Lib.hid h.bs;have gP:S.H.fi.length≤5:=by have:=(kZ.1 hd.few.2.2.2.2.1).1.1;simpa[MH.ma,bY] using this
 clear hd hf;go_enter func35,ntmps35
 go_wp2_with fail
 refine (fB _ 4 B b _ h (by omega)).mono ?_;rintro r w1 ⟨n1,a1,c1,l1,rfl,h1,s1,kU,kS⟩;obtain⟨N,rfl⟩:=fE kU.1;have gY:N<4:=by omega
 have kR:=Lib.hid kS;clear h kU kS;have ge:IntKind.i64.wrap ((S.H.fi.length:Int)+1)=(S.H.fi.length:Int)+1:=bM _ (by omega);go_upto_region 2 with (fail)
 go_loopw [11,2] (fun i u wr => ∃(k:Nat) (A:List Ar) (a:Option Addr) (c:Nat) (al:Option Addr) (cl:Nat) (ll:List UInt8),k≤N∧i = .int .i64 k∧u = .slice a A.length c∧Own wr B 99 7 (.slice a A.length c) A.length (A.flatMap mM)∧ed wr B b (S.lst al cl ll)∧MS w b S wr (S.lst al cl ll) ∧
  Hid ((bI A).1=0∧(∀n g,onA A n=some g→g.fi<S.H.fi.length)∧(k=0→A=[]∧ll=l1))) (fun i _ _=>N-(intOf i).toNat)
 case atStart=>exact⟨0,[],none,0,a1,c1,l1,aV _,rfl,rfl,by simpa using Own.nil _ _ _ _,h1,s1,Lib.hid ⟨by decide,fun n g h=>(by cases h),fun _=>⟨rfl,rfl⟩⟩⟩
 case round=>
  clear h1 s1;obtain⟨k,A,a,c,al,cl,ll,hk,rfl,rfl,hi,hm,hs,hA⟩:=hrel;have kl:=Lib.hid (hm.own_not hi (by decide))
  by_cases hkN:k<N
  ·have gj:(k:Int)<(N:Int):=by omega
   go_upto_region 3 with (fail);refine gN 21 [_,.r 1 ((bW fun v => ∃x:Int,v = .int .i64 x∧0≤x∧x<12)),_,.r 3 ((bW fun v => ∃x:Int,v = .int .i64 x)),.r 4 ((bW fun v => ∃u,v = .bool u)),_,.r 6 ((bW fun v => ∃x:Int,v = .int .i64 x)),.r 7 ((bW fun v => ∃u,v = .bool u)),_,_,_,_,_,_,.v (.slice S.H.ai S.H.fi.length S.H.ci),_,_,.r 17 ((bW fun v => ∃x:Int,v = .int .i64 x∧0≤x∧x<(S.H.fi.length:Int)+1)),.r 18 ((bW fun v => ∃x:Int,v = .int .i64 x∧-1≤x∧x<S.H.fi.length)),.r 19 ((bW fun v => ∃fr rd wr fi,v = .agg (nX ⟨fr,0,rd,wr,false,fi,0⟩)∧0≤fr∧fr<12∧-1≤fi∧fi<S.H.fi.length)),.r 20 ((bW fun _=>True))] (LK (S.lst al cl ll) B b wr 20 (nX ⟨0,0,false,false,false,0,0⟩) 99) jm (fun _=>⟨⟨al,cl,ll,hm,MS.refl _ _ _,fun t ht=>(by cases ht)⟩,fun e=>(by cases e)⟩) (Qk jm rfl (ag ?_ (Qk jm rfl (ag ?_ (ag ?_ (Qk jm rfl (ag ?_ (ag ?_ (Qk jm rfl (Qk jm rfl (Qk jm rfl (Qf jm b 1 rfl rfl (Qf jm b 8 rfl rfl (Qf jm b 8 rfl rfl (ag ?_ (Qn jm rfl rfl rfl rfl (Qb jm (.int .i64 ((S.H.fi.length:Int)+1)) (by simp[go_sem,ge]) rfl rfl rfl rfl rfl (ag ?_ (ag ?_ (ag ?_ (ag ?_ (aC)))))))))))))))))))))) (fun _=>rfl) rfl ?_
   ·intro ρ y W L hw hn q z hb hd;have gL:=hw 13 0 rfl;have h0:y 0=_:=hd 0 rfl;have EC:∀v,ρ (.const v)=v:=fun v=>hn (.const v) trivial;have EF:∀f,ρ (.func f) = .func (.func f) #[] #[]:=fun f=>hn (.func f) trivial;refine gU _ _ (ah rfl) (aU rfl (EF _) func30 (by kernel_rfl) (by kernel_rfl) (by simp only[bV,bP,bT,gL,h0,EC,EF];rfl)) ?_;exact xh rfl (fun _=>rfl) 12 (by omega) hb fun x h1 h2 h3 _=>⟨x,rfl,h1,by omega⟩
   ·intro ρ y W L hw hn q z hb hd;have gJ:=hw 15 2 rfl;have h2:y 2=_:=hd 2 rfl;have EC:∀v,ρ (.const v)=v:=fun v=>hn (.const v) trivial;have EF:∀f,ρ (.func f) = .func (.func f) #[] #[]:=fun f=>hn (.func f) trivial;refine gU _ _ (ah rfl) (aU rfl (EF _) func30 (by kernel_rfl) (by kernel_rfl) (by simp only[bV,bP,bT,gJ,h2,EC,EF];rfl)) ?_;exact xh rfl (fun _=>rfl) 4 (by omega) hb fun x h1 h2 h3 _=>⟨x,rfl⟩
   ·intro ρ y W L hw hn q z hb hd;refine eD jm (fun _ _ h=>h) hb ?_;have gI:=hw 16 3 rfl;have h3:=hd 3 rfl;obtain⟨x,hx⟩:=h3;refine aj _ (ah rfl) (pF rfl (gI.trans hx) (hn (.const _) trivial) (by simp[go_sem];rfl)) ⟨_,rfl⟩
   ·intro ρ y W L hw hn q z hb hd;have gG:=hw 18 5 rfl;have h5:y 5=_:=hd 5 rfl;have EC:∀v,ρ (.const v)=v:=fun v=>hn (.const v) trivial;have EF:∀f,ρ (.func f) = .func (.func f) #[] #[]:=fun f=>hn (.func f) trivial;refine gU _ _ (ah rfl) (aU rfl (EF _) func30 (by kernel_rfl) (by kernel_rfl) (by simp only[bV,bP,bT,gG,h5,EC,EF];rfl)) ?_;exact xh rfl (fun _=>rfl) 3 (by omega) hb fun x h1 h2 h3 _=>⟨x,rfl⟩
   ·intro ρ y W L hw hn q z hb hd;refine eD jm (fun _ _ h=>h) hb ?_;have gF:=hw 19 6 rfl;have h6:=hd 6 rfl;obtain⟨x,hx⟩:=h6;refine aj _ (ah rfl) (pF rfl (gF.trans hx) (hn (.const _) trivial) (by simp[go_sem];rfl)) ⟨_,rfl⟩
   ·intro ρ y W L hw hn q z hb hd;refine eD jm (fun _ _ h=>h) hb ?_;have gC:=hw 26 13 rfl;have gs:y 13=_:=hd 13 rfl;obtain⟨⟨a0,c0,l0,m1,m2,m3⟩,_⟩:=hb;refine aj (.slice S.H.ai S.H.fi.length S.H.ci) (ah rfl) (by simp[execOp,go_sem,gC,gs,m1.blk.cell,iV,MW.lst]) rfl
   ·intro ρ y W L hw hn q z hb hd;have gD:=hw 21 8 rfl;have h8:y 8=_:=hd 8 rfl;have gA:=hw 29 16 rfl;have gr:y 16=_:=hd 16 rfl;have EF:∀f,ρ (.func f) = .func (.func f) #[] #[]:=fun f=>hn (.func f) trivial;refine gU _ _ (ah rfl) (aU rfl (EF _) func30 (by kernel_rfl) (by kernel_rfl) (by simp only[bV,bP,bT,gD,h8,gA,gr,EF];rfl)) ?_;exact xh rfl (fun _=>rfl) _ (by omega) hb fun x h1 h2 h3 _=>⟨x,rfl,h1,by omega⟩
   ·intro ρ y W L hw hn q z hb hd;refine eD jm (fun _ _ h=>h) hb ?_;have gz:=hw 30 17 rfl;have gq:=hd 17 rfl;obtain⟨x,hx,k1,k2⟩:=gq;have kD:IntKind.i64.wrap (x-1)=x-1:=bM _ (by omega);refine aj (.int .i64 (x-1)) (ah rfl) (pF rfl (gz.trans hx) (hn (.const _) trivial) (by simp[go_sem,kD])) ⟨_,rfl,by omega,by omega⟩
   ·intro ρ y W L hw hn q z hb hd;refine eD jm (fun _ _ h=>h) hb ?_;have gK:=hw 14 1 rfl;have h1:=hd 1 rfl;have gH:=hw 17 4 rfl;have h4:=hd 4 rfl;have gE:=hw 20 7 rfl;have h7:=hd 7 rfl;have gy:=hw 31 18 rfl;have gp:=hd 18 rfl;obtain⟨x1,hB,k1,k2⟩:=h1;obtain⟨x2,gd⟩:=h4;obtain⟨x3,gc⟩:=h7;obtain⟨x4,gb,k3,k4⟩:=gp;refine aj (.agg (nX ⟨x1,0,x2,x3,false,x4,0⟩)) (ah rfl) (by simp[execOp,go_sem,gK,gH,gE,gy,hB,gd,gc,gb,nX]) ⟨x1,x2,x3,x4,rfl,k1,k2,k3,k4⟩
   ·intro ρ y W L hw hn q z hb hd;refine eP (.pointer (some ⟨W.heap.size,0,none⟩)) (ah rfl) ?_ (Ro hm hb) trivial;simp[execOp,go_sem,nX]
   intro y W2 k0 m;have gT:((bW fun v => ∃x:Int,v = .int .i64 x∧0≤x∧x<12)).r (y 1) W2:=m 1 (by decide);have gS:((bW fun v => ∃x:Int,v = .int .i64 x)).r (y 3) W2:=m 3 (by decide);have ga:((bW fun v => ∃u,v = .bool u)).r (y 4) W2:=m 4 (by decide);have gR:((bW fun v => ∃x:Int,v = .int .i64 x)).r (y 6) W2:=m 6 (by decide);have gQ:((bW fun v => ∃u,v = .bool u)).r (y 7) W2:=m 7 (by decide);have gO:((bW fun v => ∃x:Int,v = .int .i64 x∧0≤x∧x<(S.H.fi.length:Int)+1)).r (y 17) W2:=m 17 (by decide);have gM:((bW fun v => ∃x:Int,v = .int .i64 x∧-1≤x∧x<S.H.fi.length)).r (y 18) W2:=m 18 (by decide);have kN:((bW fun v => ∃fr rd wr fi,v = .agg (nX ⟨fr,0,rd,wr,false,fi,0⟩)∧0≤fr∧fr<12∧-1≤fi∧fi<S.H.fi.length)).r (y 19) W2:=m 19 (by decide);clear m;obtain⟨⟨a2,c2,l2,h2,s2,_⟩,kA⟩:=k0;obtain⟨gx,kW,axz,hh,hI⟩:=kA rfl;obtain⟨fr,rd,wr2,fi,hv,hz,gX,kM,k6⟩:=kN;rw[hv,kW];clear hv kW kA;rw[nQ] at h2 s2;have ha:=s2.ownN hi kl.out;have hJ:Hid (∀x,(Value.slice a A.length c).ownBlock=some x→¬mP b S x):=kl;have kc:=Lib.hid (hm.newA hI);have hU:Hid (∀x,(Value.slice a A.length c).ownBlock=some x→some gx≠some x):=Lib.hid fun x hx e=>by have:=Ii hi x hx;cases e;omega
   have hS:=Lib.hid (bi hs.size hI);have hT:B≤gx:=bi hm.bs hI;have hh:=Lib.hid hh;have s2:=hs.trans s2;clear hm hs hi hI
   go_wp2_with (refine az rfl _ _ _ rfl gx (nX ⟨fr,0,rd,wr2,false,fi,0⟩) rfl rfl _ _ axz rfl area_size (TK _) ?_)
   intro w3 ax3 hy;have h3:=h2.locA axz hh.out kc.out hT hy;have s3:=s2.loc hy hS.out;have hZ:=ha.grown hy hU.out;clear h2 s2 ha hy axz;have kO:IntKind.i64.wrap (fr+1)=fr+1:=bM _ (by omega);go_upto_region 4 with (fail);refine gN 7 [_,.v (.int .i64 fr),_,_,.r 4 ((bW fun v => ∃x:Int,v = .int .i64 x∧0≤x∧x<4)),.r 5 ((bW fun v => ∃x:Int,v = .int .i64 x∧fr<x∧x≤fr+4)),_] (Me (S.lst a2 c2 l2) B b w3 [(gx,nX ⟨fr,0,rd,wr2,false,fi,0⟩,99)]) aD (fun _=>⟨a2,c2,l2,h3,MS.refl _ _ _,by simpa using ⟨ax3,hh.out⟩⟩) (Qf aD gx 0 rfl rfl (ag ?_ (Qb aD (.int .i64 (fr+1)) (by simp[go_sem,kO]) rfl rfl rfl rfl rfl (Qk aD rfl (ag ?_ (ag ?_ (Qf aD gx 1 rfl rfl (aC)))))))) (fun _=>rfl) rfl ?_
   ·intro ρ y W L hw hn q z hb hd;refine eD aD (fun _ _ h=>h) hb ?_;have gw:=hw 33 0 rfl;have h0:y 0=_:=hd 0 rfl;obtain⟨a0,c0,l0,m1,m2,m3⟩:=hb;have m3:=(m3 _ (bv.2 rfl)).1;refine aj (.int .i64 fr) (ah rfl) (by simp[execOp,go_sem,gw,h0,m3.cell,nX]) rfl
   ·intro ρ y W L hw hn q z hb hd;have gu:=hw 36 3 rfl;have h3:y 3=_:=hd 3 rfl;have EC:∀v,ρ (.const v)=v:=fun v=>hn (.const v) trivial;have EF:∀f,ρ (.func f) = .func (.func f) #[] #[]:=fun f=>hn (.func f) trivial;refine gU _ _ (ah rfl) (aU rfl (EF _) func30 (by kernel_rfl) (by kernel_rfl) (by simp only[bV,bP,bT,gu,h3,EC,EF];rfl)) ?_;exact zK 4 (by omega) hb fun x h1 h2 h3 _=>⟨x,rfl,h1,by omega⟩
   ·intro ρ y W L hw hn q z hb hd;refine eD aD (fun _ _ h=>h) hb ?_;have gv:=hw 35 2 rfl;have h2:y 2=_:=hd 2 rfl;have gt:=hw 37 4 rfl;have h4:=hd 4 rfl;obtain⟨x,hx,k1,k2⟩:=h4;have kD:IntKind.i64.wrap (fr+1+x)=fr+1+x:=bM _ (by omega);refine aj (.int .i64 (fr+1+x)) (ah rfl) (pF rfl (gv.trans h2) (gt.trans hx) (by simp[go_sem,kD])) ⟨_,rfl,by omega,by omega⟩
   intro y W4 kY kh;have ga:((bW fun v => ∃x:Int,v = .int .i64 x∧0≤x∧x<4)).r (y 4) W4:=kh 4 (by decide);have k9:((bW fun v => ∃x:Int,v = .int .i64 x∧fr<x∧x≤fr+4)).r (y 5) W4:=kh 5 (by decide);clear kh;obtain⟨a4,c4,l4,h4,s4,kV⟩:=kY;have ax4:=(kV _ (bv.2 rfl)).1;rw[nQ] at h4 s4;have hY:=s4.ownN hZ hJ.out;have s4:=s3.trans s4;obtain⟨en,hv,gW,gV⟩:=k9;rw[hv];clear hv kV h3 s3 hZ ax3 kO
   go_wp2_with (refine aA rfl _ _ _ rfl gx 1 _ [.int .i64 en] rfl rfl rfl _ _ ax4 (by show 1+1≤7;omega) (by kernel_rfl) (fun u hu=>by cases bv.1 hu;rfl) ?_)
   intro w5 ax5 hr;rw[show bB (nX ⟨fr,0,rd,wr2,false,fi,0⟩) 1 [.int .i64 en]=nX ⟨fr,en,rd,wr2,false,fi,0⟩ from rfl] at ax5;have h5:=h4.locA ax4 hh.out kc.out hT hr;have s5:=s4.loc hr hS.out;have hq:=hY.grown hr hU.out;clear h4 s4 hY ax4 hr;have hR:=ax5.cell;unfold nX at hR;go_upto_if 42 with (fail)
   go_cut [2] (fun s2 wx=>s2 = .slice a A.length c∧∃(X:Ar) (a:Option Addr) (cl:Nat) (l:List UInt8),aB wx gx (nX X) 99∧ed wx B b (S.lst a cl l)∧MS w b S wx (S.lst a cl l)∧Own wx B 99 7 s2 A.length (A.flatMap mM)∧Hid (X.fi<S.H.fi.length))
   case first=>
    by_cases hfi0:0≤fi
    ·go_wp2_with fail
     refine (fB _ 2 B b _ h5 (by omega)).mono ?_;rintro r w6 ⟨x6,a6,c6,l6,rfl,h6,s6,_,_⟩;rw[nQ] at h6 s6;have ax6:=s6.blkN ax5 hh.out;have own6:=s6.ownN hq hJ.out;have s6:=s5.trans s6;clear h5 s5 hq hR ax5
     go_wp2_with fail
     refine (fB _ 4 B b _ h6 (by omega)).mono ?_;rintro r w7 ⟨x7,a7,c7,l7,rfl,h7,s7,_,_⟩;rw[nQ] at h7 s7;have ax7:=s7.blkN ax6 hh.out;have own7:=s7.ownN own6 hJ.out;have s7:=s6.trans s7;clear h6 s6 own6 ax6
     go_wp2_with (refine aA rfl _ _ _ rfl gx 4 _ [.bool (x6==1)] rfl rfl rfl _ _ ax7 (by show 4+1≤7;omega) (by kernel_rfl) (fun u hu=>by cases bv.1 hu;rfl) ?_)
     intro w8 ax8 ko;rw[show bB (nX ⟨fr,en,rd,wr2,false,fi,0⟩) 4 [.bool (x6==1)]=nX ⟨fr,en,rd,wr2,x6==1,fi,0⟩ from rfl] at ax8;have h8:=h7.locA ax7 hh.out kc.out hT ko;have s8:=s7.loc ko hS.out;have own8:=own7.grown ko hU.out;clear h7 s7 own7 ax7 ko
     go_wp2_with (refine aA rfl _ _ _ rfl gx 6 _ [.int .i64 x7] rfl rfl rfl _ _ ax8 (by show 6+1≤7;omega) (by kernel_rfl) (fun u hu=>by cases bv.1 hu;rfl) ?_)
     intro w9 ax9 kn;rw[show bB (nX ⟨fr,en,rd,wr2,x6==1,fi,0⟩) 6 [.int .i64 x7]=nX ⟨fr,en,rd,wr2,x6==1,fi,x7⟩ from rfl] at ax9;have h9:=h8.locA ax8 hh.out kc.out hT kn;have s9:=s8.loc kn hS.out;have own9:=own8.grown kn hU.out;clear h8 s8 own8 ax8 kn;go_wp2;go_meet
     case rel=>exact⟨rfl,_,a7,c7,l7,ax9,h9,s9,own9,Lib.hid k6⟩
    go_wp2;go_meet
    case rel=>exact⟨rfl,_,a4,c4,l4,ax5,h5,s5,hq,Lib.hid k6⟩
   case rest=>
    obtain⟨rfl,X,a6,c6,l6,ax6,h6,s6,own6,gm⟩:=hcut;clear h5 s5 hq ax5 hR
    go_wp2_with (refine ax _ _ rfl gx 0 rfl rfl _ ax6.rd _ underlying99 rfl area_size ?_)
    refine (Tf A X a c _ (have h9:=ug own6;⟨h9.le,h9.mx,h9.nl,h9.rd⟩)).mono ?_;rintro r w7 ⟨v7,rfl,own7,kq⟩;obtain⟨a7,c7,rfl,_⟩:=own7.rd;have own7:=own7.mono h6.bs;have h7:=h6.below kq;have s7:=s6.below kq;have own6:=own6.below kq;clear h6 s6 ax6 kq kl hJ hU hh kc hS hT
    by_cases hme:AO A X=0
    ·have km:=LQ hme;have kb:Hid ((bI (yg A X)).1=0∧(∀n g,onA (yg A X) n=some g→g.fi<S.H.fi.length)∧(k+1=0→yg A X=[]∧l6=l1)):=Lib.hid ⟨jI.2 ⟨km.1,km.2.1⟩,fun n g hg=>by
      rw[km.2.2] at hg;split at hg
      ·cases hg;exact gm.out
      ·exact hA.out.2.1 n g hg,fun e=>by omega⟩
     clear km;rw[hme];go_wp2;go_roundw
     case rel=>exact⟨k+1,yg A X,a7,c7,a6,c6,l6,by omega,by go_num,rfl,own7,h7,s7,kb⟩
     case measure=>simp[intOf];omega
    have kb:Hid ((bI A).1=0∧(∀n g,onA A n=some g→g.fi<S.H.fi.length)∧(k+1=0→A=[]∧l6=l1)):=Lib.hid ⟨hA.out.1,hA.out.2.1,fun e=>by omega⟩;go_wp2;go_roundw
    case rel=>exact⟨k+1,A,a,c,a6,c6,l6,by omega,by go_num,rfl,own6,h7,s7,kb⟩
    case measure=>simp[intOf];omega
  have gj:¬(k:Int)<(N:Int):=by omega
  obtain rfl:k=N:=by omega
  have g1:A.length≤16:=(jI.1 hA.out.1).1;have hc:=hm.blk.cell;unfold iV at hc;dsimp only[MW.lst] at hc;have hD:=hm.ma.sp;dsimp only[MW.lst] at hD
  go_wp2_with (at_builtin;go_must (refine sM rfl _ _ 39 rfl B 55 _ 10 224 underlying39 space_info rfl (by decide) _ S.H.sp.length (S.H.sp.flatMap sW) rfl (hD.alloc _) (some ⟨wr.heap.size,0,none⟩) 1 1 (sW ⟨true,a,c,A,nTs,zTb⟩) rfl (fun h=>(by cases h)) (ay _) rfl (dP.new _ (vT ⟨true,a,c,A,nTs,zTb⟩) _) (bS (by simp[vT,nTs,Value.oneCell'])) (by unfold maxLen;omega) (by omega) (cZ hm.bs _) ?_))
  intro v2 w2 own2 hH kv;have kr:=(Below.refl wr.heap.size wr).alloc (ay _) (.cells (vT (⟨true,a,c,A,nTs,zTb⟩:PS)) 55);have o:=hm.below kr;have hP:=hs.below kr;have ka:=hi.below kr;have d:Own (wr.alloc (.cells (vT (⟨true,a,c,A,nTs,zTb⟩:PS)) 55)) B 55 10 (.slice S.H.ap S.H.sp.length S.H.cp) S.H.sp.length (S.H.sp.flatMap sW):=o.ma.sp;have ha:=iK d hH ka (by decide);have kC:=zV d hH o.blk (by decide);have kx:∀p∈S.H.sp++[(⟨true,a,c,A,nTs,zTb⟩:PS)],Own w2 B 99 7 (.slice p.aa p.ar.length p.ac) p.ar.length (p.ar.flatMap mM)∧qG w2 B (nP p.ts) p.tb:=fun p hp=>by
   rcases fO.1 hp with hp|hp
   ·exact⟨iK d hH (o.ma.ps p hp).1 (by decide),Da d hH (o.ma.ps p hp).2⟩
   rw[bv.1 hp];exact⟨ha,yS _ _⟩
  obtain⟨a2,c2,rfl,_⟩:=own2.rd;have hG:(S.H.sp++[(⟨true,a,c,A,nTs,zTb⟩:PS)]).length=S.H.sp.length+1:=by simp
  have own2' : Own w2 B 55 10 (.slice a2 (S.H.sp++[(⟨true,a,c,A,nTs,zTb⟩:PS)]).length c2) (S.H.sp++[(⟨true,a,c,A,nTs,zTb⟩:PS)]).length ((S.H.sp++[(⟨true,a,c,A,nTs,zTb⟩:PS)]).flatMap sW):=by rw[hG,eY];simpa using own2
  clear hc hm hs hi ka hD own2 kl
  go_wp2_with (refine aA rfl _ _ _ rfl b 11 _ [.slice a2 (S.H.sp.length+1) c2] rfl rfl rfl _ _ kC (by show 11+1≤13;omega) (by kernel_rfl) (fun u hu=>by cases bv.1 hu;rfl) ?_)
  intro w3 kM hy;have h3:ed w3 B b { S.lst al cl ll with H:={ S.H with ap:=a2,cp:=c2,sp:=S.H.sp++[(⟨true,a,c,A,nTs,zTb⟩:PS)] } }:=o.appP hH own2' kx (by rw[hG];exact kM) hy;have s3:MS w b S w3 { S.lst al cl ll with H:={ S.H with ap:=a2,cp:=c2,sp:=S.H.sp++[(⟨true,a,c,A,nTs,zTb⟩:PS)] } }:=hP.app o d (by simp[gZ,MW.lst]) hH hy kv (fun x hx=>by
   rcases hx with hx|hx
   ·exact .inl (.inl hx)
   simp only[gZ,MW.lst,bZ,fP,or_false] at hx;rcases hx with hx|hx|hx|hx|hx|hx|hx|hx|hx<;>first|exact .inr hx.symm|exact .inl (.inr (by simp[gZ,MW.lst,hx])))
  have kg:S.T.length≤100:=by have h9:=kI.out.ok.len;have h8:S.H.ma.sp.length=S.H.sp.length:=fo _;omega
  clear o hP d kC kx own2' kM hy kv hH kr ha;have hc:=h3.blk.cell;unfold iV at hc;dsimp only[MW.lst] at hc;have hC:Own w3 B 90 192 (.slice S.ab S.T.length S.cb) S.T.length (S.T.flatMap tL):=h3.tt
  go_wp2_with (at_builtin;go_must (refine BJ rfl _ _ rfl (by kernel_rfl) B (.slice S.ab S.T.length S.cb) S.T.length (S.T.flatMap tL) rfl hC rfl kg h3.bs ?_))
  intro v4 w4 own4 kp ku;have hO:=(Below.refl w3.heap.size w3).alloc (ay _) (.cells (tL (List.replicate 64 zEn)).toArray 90);have ki:=h3.below hO;have s3a:=s3.below hO;have hl:=hC.below hO;have kB:aB w4 b (iV { S.lst al cl ll with H:={ S.H with ap:=a2,cp:=c2,sp:=S.H.sp++[(⟨true,a,c,A,nTs,zTb⟩:PS)] } }) 77:=by
   rcases ru hl kp with hb0|⟨g,cs,hk,_,hg'⟩
   ·exact ki.blk.ext hb0
   ·exact bq ki.blk hk (by decide) hg'
  obtain⟨a4,c4,rfl,_⟩:=own4.rd;have hF:(S.T++[List.replicate 64 zEn]).length=S.T.length+1:=by simp
  have own4' : Own w4 B 90 192 (.slice a4 (S.T++[List.replicate 64 zEn]).length c4) (S.T++[List.replicate 64 zEn]).length ((S.T++[List.replicate 64 zEn]).flatMap tL):=by rw[hF,eY];simpa using own4
  clear hc h3 s3 hC own4 hO
  go_wp2_with (refine aA rfl _ _ _ rfl b 12 _ [.slice a4 (S.T.length+1) c4] rfl rfl rfl _ _ kB (by show 12+1≤13;omega) (by kernel_rfl) (fun u hu=>by cases bv.1 hu;rfl) ?_)
  intro w5 k5 hr;have h5:ed w5 B b { S.lst al cl ll with H:={ S.H with ap:=a2,cp:=c2,sp:=S.H.sp++[(⟨true,a,c,A,nTs,zTb⟩:PS)] },ab:=a4,cb:=c4,T:=S.T++[List.replicate 64 zEn] }:=ki.appT kp own4' (by rw[hF];exact k5) hr;have s5:MS w b S w5 { S.lst al cl ll with H:={ S.H with ap:=a2,cp:=c2,sp:=S.H.sp++[(⟨true,a,c,A,nTs,zTb⟩:PS)] },ab:=a4,cb:=c4,T:=S.T++[List.replicate 64 zEn] }:=s3a.app ki hl (by simp[gZ,MW.lst]) kp hr ku (fun x hx=>by
   rcases hx with hx|hx
   ·exact .inl (.inl hx)
   simp only[gZ,MW.lst,bZ,fP,or_false] at hx;rcases hx with hx|hx|hx|hx|hx|hx|hx|hx|hx<;>first|exact .inr hx.symm|exact .inl (.inr (by simp[gZ,MW.lst,hx])))
  clear ki s3a hl kB own4' k5 hr ku kp;have hL:({ S.lst al cl ll with H:={ S.H with ap:=a2,cp:=c2,sp:=S.H.sp++[(⟨true,a,c,A,nTs,zTb⟩:PS)] },ab:=a4,cb:=c4,T:=S.T++[List.replicate 64 zEn] }:MW).H.ma = { S.H.ma with sp:=S.H.ma.sp++[⟨true,A,zTb⟩] }:=by simp[MH.ma,PS.sp]
  have kf:Bd ({ S.lst al cl ll with H:={ S.H with ap:=a2,cp:=c2,sp:=S.H.sp++[(⟨true,a,c,A,nTs,zTb⟩:PS)] },ab:=a4,cb:=c4,T:=S.T++[List.replicate 64 zEn] }:MW).H.ma ({ S.lst al cl ll with H:={ S.H with ap:=a2,cp:=c2,sp:=S.H.sp++[(⟨true,a,c,A,nTs,zTb⟩:PS)] },ab:=a4,cb:=c4,T:=S.T++[List.replicate 64 zEn] }:MW).T:=by rw[hL];exact kI.out.more (s:=⟨true,A,zTb⟩) (by show (S.H.sp.map PS.sp).length<4;rw[fo];exact hl4) rfl hA.out.1
  have hE:Hid (More S { S.lst al cl ll with H:={ S.H with ap:=a2,cp:=c2,sp:=S.H.sp++[(⟨true,a,c,A,nTs,zTb⟩:PS)] },ab:=a4,cb:=c4,T:=S.T++[List.replicate 64 zEn] }):=Lib.hid ⟨kf,fun p hp n g hg=>by
   rcases fO.1 hp with hp|hp
   ·exact gl.out p hp n g hg
   rw[bv.1 hp] at hg;exact hA.out.2.1 n g hg,rfl,rfl,rfl,by simp,rfl⟩
  have k8:S.T.length=S.H.sp.length:=by have h9:=kI.out.ok.len;have h8:S.H.ma.sp.length=S.H.sp.length:=fo _;omega
  have kH:Hid (∀j:Nat,(fe ({ S.lst al cl ll with H:={ S.H with ap:=a2,cp:=c2,sp:=S.H.sp++[(⟨true,a,c,A,nTs,zTb⟩:PS)] },ab:=a4,cb:=c4,T:=S.T++[List.replicate 64 zEn] }:MW).T S.H.sp.length j).k=0):=Lib.hid fun j=>by unfold fe eU;rw[aS (l:=S.T++_),kK (by omega),←k8,tV];show ((List.replicate 64 zEn).getD j zEn).k=0;rw[aS,nI];split<;>rfl
  have kE:Hid (fF ({ S.lst al cl ll with H:={ S.H with ap:=a2,cp:=c2,sp:=S.H.sp++[(⟨true,a,c,A,nTs,zTb⟩:PS)] },ab:=a4,cb:=c4,T:=S.T++[List.replicate 64 zEn] }:MW).H.ma S.H.sp.length=⟨true,A,zTb⟩):=Lib.hid (by rw[hL];unfold fF;have h8:S.H.ma.sp.length=S.H.sp.length:=fo _;rw[aS,kK (by omega),h8,tV];rfl);have hX:∀W,ed W B b { S.lst al cl ll with H:={ S.H with ap:=a2,cp:=c2,sp:=S.H.sp++[(⟨true,a,c,A,nTs,zTb⟩:PS)] },ab:=a4,cb:=c4,T:=S.T++[List.replicate 64 zEn] }→dP W a (A.flatMap mM):=fun W hW=>(ug (hW.ma.ps (⟨true,a,c,A,nTs,zTb⟩:PS) (tC _ (bv.2 rfl))).1).rd;have kF:Hid (({ S.lst al cl ll with H:={ S.H with ap:=a2,cp:=c2,sp:=S.H.sp++[(⟨true,a,c,A,nTs,zTb⟩:PS)] },ab:=a4,cb:=c4,T:=S.T++[List.replicate 64 zEn] }:MW).H.sp.length=S.H.sp.length+1):=Lib.hid (by simp);have gh:Hid (S.l=[]→A=[]∧({ S.lst al cl ll with H:={ S.H with ap:=a2,cp:=c2,sp:=S.H.sp++[(⟨true,a,c,A,nTs,zTb⟩:PS)] },ab:=a4,cb:=c4,T:=S.T++[List.replicate 64 zEn] }:MW).l=[]∧({ S.lst al cl ll with H:={ S.H with ap:=a2,cp:=c2,sp:=S.H.sp++[(⟨true,a,c,A,nTs,zTb⟩:PS)] },ab:=a4,cb:=c4,T:=S.T++[List.replicate 64 zEn] }:MW).H.ma = { S.H.ma with sp:=S.H.ma.sp++[⟨true,[],zTb⟩] }∧({ S.lst al cl ll with H:={ S.H with ap:=a2,cp:=c2,sp:=S.H.sp++[(⟨true,a,c,A,nTs,zTb⟩:PS)] },ab:=a4,cb:=c4,T:=S.T++[List.replicate 64 zEn] }:MW).T=S.T++[List.replicate 64 zEn]):=Lib.hid fun e=>by
   have h9:=kR.out e;have gk:k=0:=by omega
   have h8:=hA.out.2.2 gk;refine⟨h8.1,by show ll=[];rw[h8.2];exact h9.2,?_,rfl⟩;rw[hL,h8.1]
  have kw:=hX _ h5;have ks:∀S9:MW,S9.H.sp=S.H.sp++[(⟨true,a,c,A,nTs,zTb⟩:PS)]→S9.H.sp.length=S.H.sp.length+1:=fun S9 e=>by rw[e];simp
  have kt:({ S.lst al cl ll with H:={ S.H with ap:=a2,cp:=c2,sp:=S.H.sp++[(⟨true,a,c,A,nTs,zTb⟩:PS)] },ab:=a4,cb:=c4,T:=S.T++[List.replicate 64 zEn] }:MW).H.sp=S.H.sp++[(⟨true,a,c,A,nTs,zTb⟩:PS)]:=rfl;clear hL hX k8;generalize ({ S.lst al cl ll with H:={ S.H with ap:=a2,cp:=c2,sp:=S.H.sp++[(⟨true,a,c,A,nTs,zTb⟩:PS)] },ab:=a4,cb:=c4,T:=S.T++[List.replicate 64 zEn] }:MW)=S5 at *
  have kd:=ks S5 kt;have kX:S5.H.fi=S.H.fi:=hE.out.fi;have kP:srtF 0 A:=nM (jI.1 hA.out.1).2;have hV:=Lib.hid kP;have hc:=h5.blk.cell;unfold iV at hc;rw[kd] at hc;have gf:IntKind.i64.wrap (((S.H.sp.length+1:Nat):Int)-1)=(S.H.sp.length:Int):=by rw[bM _ (by omega)];omega
  have kJ:=Lib.hid kf;clear kf kP ks kd kX kt kg hF hG
  go_wp2_with fail
  refine (qU A a c _ kw (by omega) (fun x hx=>(srtF_ok hV.out x hx).1)).mono ?_;rintro r w6 ⟨rfl,kL⟩;have h6:=h5.below kL;have s6:=s5.below kL;have kj:=Lib.hid kF;clear h5 s5 hc kw gf kL;go_upto_region 15 with (fail)
  go_loopw [92] (fun i wr => ∃(n:Nat) (Sn:MW),n≤64∧i = .int .i64 n∧ed wr B b Sn∧MS w b S wr Sn∧Hid (Jj S5 Sn∧Bd Sn.H.ma Sn.T∧(∀j:Nat,n≤j→(fe Sn.T S.H.sp.length j).k=0)∧(A=[]→Sn=S5))) (fun i _=>64-(intOf i).toNat)
  case atStart=>exact⟨0,S5,aV _,rfl,h6,s6,Lib.hid ⟨.refl _,kJ.out,fun j _=>kH.out j,fun _=>rfl⟩⟩
  case round=>
   clear h6 s6;obtain⟨n,Sn,hn,rfl,hm,hs,hN⟩:=hrel
   by_cases hn64:n<64
   ·have gi:(n:Int)<64:=by omega
    cases hfk:cz A n with
    | none=>
     have hQ:=CO (cz A) n hn64 none hfk;unfold xV oR oW oH oF oP at hQ;have kz:=Lib.hid hfk;clear hfk;go_upto_region 17 with (fail);refine gB (fun W=>Code.wp _ _ _ _ W) fun W1 hz hB hP => ?_;have hR:=hB.cell;have o:=hm.below hz;have kk:=hs.below hz;clear hP hz hm hs hQ;go_wp2;go_roundw
     case rel=>exact⟨n+1,Sn,by omega,by go_num,o,kk,Lib.hid ⟨hN.out.1,hN.out.2.1,fun j hj=>hN.out.2.2.1 j (by omega),hN.out.2.2.2⟩⟩
     case measure=>simp[intOf];omega
    | some g=>
     have hQ:=CO (cz A) n hn64 (some g) hfk;unfold xV oR oW oH oF oP at hQ;dsimp only[Option.isSome] at hQ;have kz:=Lib.hid hfk;clear hfk;go_upto_region 17 with (fail);refine gB (fun W=>Code.wp _ _ _ _ W) fun W1 hz hB hP => ?_;have hR:=hB.cell;have o:=hm.below hz;have kk:=hs.below hz;clear hP hz hm hs hQ;have kG:onA A n=some g:=by rw[←qZ hV.out];exact kz.out
     have kT:=pg_in hV.out kG;have ke:=Lib.hid kG;have ky:=Lib.hid kT;have kQ:Hid (fF Sn.H.ma S.H.sp.length=⟨true,A,zTb⟩):=Lib.hid (by rw[←kE.out];show (Sn.H.sp.map PS.sp).getD _ zSp=(S5.H.sp.map PS.sp).getD _ zSp;rw[hN.out.1.sp]);clear kG kT
     go_wp2_with (refine ax _ _ rfl wr.heap.size 0 rfl rfl _ hB.rd _ underlying109 rfl one_size ?_)
     refine (Lp Sn S.H.sp.length n g B b _ o hN.out.2.1 (by rw[hN.out.1.sp,kj.out.out];omega) hn64 (hN.out.2.2.1 n (ay _)) (by rw[kQ.out];exact ke.out) (by rw[hN.out.1.fi,hE.out.fi];exact hA.out.2.1 _ _ ke.out) ky.out.1 (fun h=>by
      rcases Int.lt_or_le g.fi 0 with h9|h9
      ·have:=(ky.out.2.2.2.2.1 h9).1;rw[h] at this;simp at this
      ·exact h9)).mono ?_
     rintro r w7 ⟨S7,rfl,h7,s7,k7,bd7,ent7⟩;have gg:=kk.trans s7;have gn:Hid (Jj S5 S7∧Bd S7.H.ma S7.T∧(∀j:Nat,n+1≤j→(fe S7.T S.H.sp.length j).k=0)∧(A=[]→S7=S5)):=Lib.hid ⟨hN.out.1.trans k7,bd7,fun j hj=>by rw[ent7 _ _ (by omega)];exact hN.out.2.2.1 j (by omega),fun e=>by have h9:=ke.out;rw[e] at h9;cases h9⟩;clear o kk s7 k7 bd7 ent7 hB hR;go_wp2;go_roundw
     case rel=>exact⟨n+1,S7,by omega,by go_num,h7,gg,gn⟩
     case measure=>simp[intOf];omega
   have gi:¬(n:Int)<64:=by omega
   go_wp2;refine bodyPost_ret (v:=.tuple #[]) (by simp[results,go_sem,results35]) rfl ?_;have hK:=hN.out.1;have hM:=hE.out;refine⟨Sn,rfl,hm,hs,⟨hN.out.2.1,fun p hp n g hg => ?_,hK.fi.trans hM.fi,hK.ct.trans hM.ct,hK.dk.trans hM.dk,by rw[hK.sp];exact hM.sp,hK.fl.trans hM.fs⟩,fun e => ?_⟩
   ·rw[hK.sp] at hp;rw[hK.fi];exact hM.fm p hp n g hg
   have h9:=gh.out e;rw[hN.out.2.2.2 h9.1];exact h9.2
theorem ed.putD (h:ed w B b S) (hk:aB w g cs 79) (hgB:B≤g) (hga:oB S.H.db=some g) (hg:w.grownBy w' (some g)) {l:List Page} (hl:l.length=S.H.dk.blocks.length) (ho:Own w' B 79 8 (.slice S.H.db l.length S.H.cdb) l.length (l.flatMap Br)) :
    ed w' B b { S with H:={ S.H with dk:=⟨l,S.H.dk.queue⟩ } }:=
  ⟨by
    have h1:=bq h.blk hk (by decide) hg;have e:iV { S with H:={ S.H with dk:=⟨l,S.H.dk.queue⟩ } }=iV S:=by unfold iV;rw[show ({ S.H with dk:=⟨l,S.H.dk.queue⟩ }:MH).dk.blocks.length=S.H.dk.blocks.length from hl]
    rw[e];exact h1,h.ge,
   ⟨ak h.ma.fr hk (by decide) hg,ak h.ma.sl hk (by decide) hg,⟨h.ma.sw.b.grown hg (fun g' hg' e=>by cases e;rw[lK] at hg';exact h.n1 _ hg' hga),ak h.ma.sw.q hk (by decide) hg⟩,⟨ho,ak h.ma.dk.q hk (by decide) hg⟩,h.ma.st.keep hk (by decide) (by decide) hg,ak h.ma.ca hk (by decide) hg,ak h.ma.sp hk (by decide) hg,fun p hp=>⟨ak (h.ma.ps p hp).1 hk (by decide) hg,(h.ma.ps p hp).2.keep hk (by decide) hg⟩,h.ma.c64⟩,
   ak h.tt hk (by decide) hg,h.rd.keep h.ra h.bs hg hgB,h.ra,h.n1,h.n2,h.n3⟩
theorem ed.appQ (h:ed w B b S) (hg:w.grownBy w1 (Value.slice S.H.dq S.H.dk.queue.length S.H.cdq).ownBlock) {l:List (Int × Page)} (ho:Own w1 B 86 9 (.slice a l.length c) l.length (l.flatMap yP))
 (hb:aB w2 b (bB (iV S) 7 [.slice a l.length c]) 77) (hg2:w1.grownBy w2 (some b)) :
  ed w2 B b { S with H:={ S.H with dq:=a,cdq:=c,dk:=⟨S.H.dk.blocks,l⟩ } }:=by
 have d:Own w B 86 9 (.slice S.H.wq S.H.sw.queue.length S.H.cwq) S.H.sw.queue.length (S.H.sw.queue.flatMap yP):=h.ma.sw.q;have key:aB w1 b (iV S) 77∧Own w1 B 81 13 (.slice S.H.af S.H.m.fs.length S.H.cf) S.H.m.fs.length (S.H.m.fs.flatMap qf)∧Own w1 B 3 1 (.slice S.H.asl S.H.sl.length S.H.csl) S.H.sl.length (S.H.sl.map fT) ∧
   il w1 B (.slice S.H.wb S.H.sw.blocks.length S.H.cwb) (.slice S.H.wq S.H.sw.queue.length S.H.cwq) S.H.sw∧Own w1 B 79 8 (.slice S.H.db S.H.dk.blocks.length S.H.cdb) S.H.dk.blocks.length (S.H.dk.blocks.flatMap Br)∧nW w1 B (.slice S.H.ai S.H.fi.length S.H.ci) S.H.fi ∧
   Own w1 B 106 3 (.slice S.H.ac S.H.ca.length S.H.cc) S.H.ca.length (S.H.ca.flatMap mD)∧Own w1 B 55 10 (.slice S.H.ap S.H.sp.length S.H.cp) S.H.sp.length (S.H.sp.flatMap sW) ∧
   (∀p∈S.H.sp,Own w1 B 99 7 (.slice p.aa p.ar.length p.ac) p.ar.length (p.ar.flatMap mM)∧qG w1 B (nP p.ts) p.tb)∧Own w1 B 90 192 (.slice S.ab S.T.length S.cb) S.T.length (S.T.flatMap tL)∧uk w1 S.al S.cl S.l.length (S.l.map yO):=by
  rcases ru h.ma.dk.q hg with hb0|⟨g,cs,hk,hga,hg'⟩
  ·have h1:=h.below hb0;exact⟨h1.blk,h1.ma.fr,h1.ma.sl,h1.ma.sw,h1.ma.dk.b,h1.ma.st,h1.ma.ca,h1.ma.sp,h1.ma.ps,h1.tt,h1.rd⟩
  ·exact⟨bq h.blk hk (by decide) hg',ak h.ma.fr hk (by decide) hg',ak h.ma.sl hk (by decide) hg',⟨ak h.ma.sw.b hk (by decide) hg',d.grown hg' (fun g' he=>by rw[h.n3] at he;cases he)⟩,ak h.ma.dk.b hk (by decide) hg',h.ma.st.keep hk (by decide) (by decide) hg',ak h.ma.ca hk (by decide) hg',ak h.ma.sp hk (by decide) hg',fun p hp=>⟨ak (h.ma.ps p hp).1 hk (by decide) hg',(h.ma.ps p hp).2.keep hk (by decide) hg'⟩,ak h.tt hk (by decide) hg',h.rd.keep h.ra h.bs hg' (iQ h.ma.dk.q hga).1⟩
 obtain⟨k0,k1,k2,k3,k4,k5,k6,k7,k8,k9,k10⟩:=key;exact⟨hb,h.ge,⟨ak k1 k0 (by decide) hg2,ak k2 k0 (by decide) hg2,k3.keep k0 (by decide) (by decide) hg2,⟨ak k4 k0 (by decide) hg2,ak ho k0 (by decide) hg2⟩,k5.keep k0 (by decide) (by decide) hg2,ak k6 k0 (by decide) hg2,ak k7 k0 (by decide) hg2,fun p hp=>⟨ak (k8 p hp).1 k0 (by decide) hg2,(k8 p hp).2.keep k0 (by decide) hg2⟩,h.ma.c64⟩,
  ak k9 k0 (by decide) hg2,k10.keep h.ra (bi h.ge (qz k0.lt)) hg2 h.ge,h.ra,h.n1,h.n2,h.n3⟩
theorem ed.appFi (h:ed w B b S) {p:PF} (hp:Own w B 3 1 (mW p) p.l.length (p.l.map fT)) (hap:∀(i:Nat) q,S.H.fi[i]?=some q→Apart (mW q) (mW p)) (hasl:∀x,oB p.a=some x→oB S.H.asl≠some x)
 (hg:w.grownBy w1 (Value.slice S.H.ai S.H.fi.length S.H.ci).ownBlock) (ho:Own w1 B 67 2 (.slice a (S.H.fi++[p]).length c) (S.H.fi.length+1) (S.H.fi.flatMap qg++qg p))
 (hb:aB w2 b (bB (iV S) 8 [.slice a (S.H.fi++[p]).length c]) 77) (hg2:w1.grownBy w2 (some b)):ed w2 B b { S with H:={ S.H with ai:=a,ci:=c,fi:=S.H.fi++[p] } }:=by
 have hF:nW w1 B (.slice a (S.H.fi++[p]).length c) (S.H.fi++[p]):=h.ma.st.app ho hp hg hap;have key:aB w1 b (iV S) 77∧Own w1 B 81 13 (.slice S.H.af S.H.m.fs.length S.H.cf) S.H.m.fs.length (S.H.m.fs.flatMap qf)∧Own w1 B 3 1 (.slice S.H.asl S.H.sl.length S.H.csl) S.H.sl.length (S.H.sl.map fT) ∧
   il w1 B (.slice S.H.wb S.H.sw.blocks.length S.H.cwb) (.slice S.H.wq S.H.sw.queue.length S.H.cwq) S.H.sw∧il w1 B (.slice S.H.db S.H.dk.blocks.length S.H.cdb) (.slice S.H.dq S.H.dk.queue.length S.H.cdq) S.H.dk ∧
   Own w1 B 106 3 (.slice S.H.ac S.H.ca.length S.H.cc) S.H.ca.length (S.H.ca.flatMap mD)∧Own w1 B 55 10 (.slice S.H.ap S.H.sp.length S.H.cp) S.H.sp.length (S.H.sp.flatMap sW) ∧
   (∀p∈S.H.sp,Own w1 B 99 7 (.slice p.aa p.ar.length p.ac) p.ar.length (p.ar.flatMap mM)∧qG w1 B (nP p.ts) p.tb)∧Own w1 B 90 192 (.slice S.ab S.T.length S.cb) S.T.length (S.T.flatMap tL)∧uk w1 S.al S.cl S.l.length (S.l.map yO):=by
  rcases ru h.ma.st.own hg with hb0|⟨g,cs,hk,hga,hg'⟩
  ·have h1:=h.below hb0;exact⟨h1.blk,h1.ma.fr,h1.ma.sl,h1.ma.sw,h1.ma.dk,h1.ma.ca,h1.ma.sp,h1.ma.ps,h1.tt,h1.rd⟩
  ·exact⟨bq h.blk hk (by decide) hg',ak h.ma.fr hk (by decide) hg',ak h.ma.sl hk (by decide) hg',h.ma.sw.keep hk (by decide) (by decide) hg',h.ma.dk.keep hk (by decide) (by decide) hg',ak h.ma.ca hk (by decide) hg',ak h.ma.sp hk (by decide) hg',fun p hp=>⟨ak (h.ma.ps p hp).1 hk (by decide) hg',(h.ma.ps p hp).2.keep hk (by decide) hg'⟩,ak h.tt hk (by decide) hg',h.rd.keep h.ra h.bs hg' (iQ h.ma.st.own hga).1⟩
 obtain⟨k0,k1,k2,k3,k4,k6,k7,k8,k9,k10⟩:=key;exact⟨hb,h.ge,⟨ak k1 k0 (by decide) hg2,ak k2 k0 (by decide) hg2,k3.keep k0 (by decide) (by decide) hg2,k4.keep k0 (by decide) (by decide) hg2,hF.keep k0 (by decide) (by decide) hg2,ak k6 k0 (by decide) hg2,ak k7 k0 (by decide) hg2,fun p hp=>⟨ak (k8 p hp).1 k0 (by decide) hg2,(k8 p hp).2.keep k0 (by decide) hg2⟩,h.ma.c64⟩,
  ak k9 k0 (by decide) hg2,k10.keep h.ra (bi h.ge (qz k0.lt)) hg2 h.ge,h.ra,h.n1,fun q hq x hx=>by
   rcases fO.1 hq with hq|hq
   ·exact h.n2 q hq x hx
   rw[bv.1 hq] at hx;exact hasl x hx,h.n3⟩
theorem ed.putP (h:ed w B b S) (hk:aB w g cs 55) (hgB:B≤g) (hg:w.grownBy w' (some g)) (hl:sp.length=S.H.sp.length) (ho:Own w' B 55 10 (.slice S.H.ap sp.length S.H.cp) sp.length (sp.flatMap sW))
 (hps:∀p∈sp,Own w B 99 7 (.slice p.aa p.ar.length p.ac) p.ar.length (p.ar.flatMap mM)∧qG w B (nP p.ts) p.tb):ed w' B b { S with H:={ S.H with sp:=sp } }:=
  ⟨by
    have h1:=bq h.blk hk (by decide) hg;have e:iV { S with H:={ S.H with sp:=sp } }=iV S:=by unfold iV;rw[show ({ S.H with sp:=sp }:MH).sp.length=S.H.sp.length from hl]
    rw[e];exact h1,h.ge,
   ⟨ak h.ma.fr hk (by decide) hg,ak h.ma.sl hk (by decide) hg,h.ma.sw.keep hk (by decide) (by decide) hg,h.ma.dk.keep hk (by decide) (by decide) hg,h.ma.st.keep hk (by decide) (by decide) hg,ak h.ma.ca hk (by decide) hg,ho,fun p hp=>⟨ak (hps p hp).1 hk (by decide) hg,(hps p hp).2.keep hk (by decide) hg⟩,h.ma.c64⟩,
   ak h.tt hk (by decide) hg,h.rd.keep h.ra h.bs hg hgB,h.ra,h.n1,h.n2,h.n3⟩
theorem ed.setH (h:ed w B b S) {x:Int} (hb:aB w' b (bB (iV S) 2 [.int .i64 x]) 77) (hg:w.grownBy w' (some b)):ed w' B b { S with H:={ S.H with m:=⟨S.H.m.fs,x⟩ } }:=
  ⟨hb,h.ge,
   have k:=h.ma.keep h.blk (by decide) hg
   ⟨k.fr,k.sl,k.sw,k.dk,k.st,k.ca,k.sp,k.ps,k.c64⟩,ak h.tt h.blk (by decide) hg,h.rd.keep h.ra h.bs hg h.ge,h.ra,h.n1,h.n2,h.n3⟩
def Fp (S:MW) (B b:Nat) (w:World) (P:PS):(Nat→Bool)→(Nat→Value)→World→Prop:=fun L y W=>
 (∀k,10≤k→k<16→L (k+1)=true→L k=true)∧(L 16=true→L 5=true) ∧
 (L 16=false→ed W B b S∧MS w b S W S) ∧
 (L 15=true→L 16=false→∃a e,y 15 = .slice a 1 e∧uk W a e 1 (sW P)) ∧
 (L 16=true→∃w1,ed w1 B b S∧MS w b S w1 S∧w1.grownBy W (Value.slice S.H.ap S.H.sp.length S.H.cp).ownBlock∧Own W B 55 10 (y 16) (S.H.sp.length+1) (S.H.sp.flatMap sW++sW P)∧oo w1 (.slice S.H.ap S.H.sp.length S.H.cp) (y 16))
theorem KQ {row:Option Nat} (hg:w.grownBy w1 row) (hb:Below w1.heap.size w1 w2):w.grownBy w2 row:=
 ⟨hb.os.trans hg.os,hb.tape.trans hg.tape,hb.output.trans hg.output,bi hg.size hb.size,fun k hk hn=>(hb.block k (pY hk hg.size)).trans (hg.block k hk hn)⟩
theorem iE {P:PS}:∀L y W W',Below W.heap.size W W'→Fp S B b w P L y W→Fp S B b w P L y W':=
 fun _ _ _ _ hb ⟨h1,h2,h3,h4,h5⟩=>⟨h1,h2,fun e=>⟨(h3 e).1.below hb,(h3 e).2.below hb⟩,fun e1 e2=>by
  obtain⟨a,e,k1,k2⟩:=h4 e1 e2;exact⟨a,e,k1,k2.below hb⟩,fun e=>by
  obtain⟨w1,k1,k2,k3,k4,k5⟩:=h5 e;exact⟨w1,k1,k2,KQ k3 hb,k4.below hb,k5⟩⟩
theorem je {P:PS} (hi:i≠15∧i≠16) (hd:∀k,10≤k→k<16→k+1=i→L k=true) (h:Fp S B b w P L y W):Fp S B b w P (cO L i) (dG y i v) W:=by
 obtain⟨h1,h2,h3,h4,h5⟩:=h;have e15:cO L i 15=L 15:=by unfold cO;rw[if_neg (fun e=>hi.1 e.symm)]
 have e16:cO L i 16=L 16:=by unfold cO;rw[if_neg (fun e=>hi.2 e.symm)]
 have y15:dG y i v 15=y 15:=by unfold dG;rw[if_neg (fun e=>hi.1 e.symm)]
 have y16:dG y i v 16=y 16:=by unfold dG;rw[if_neg (fun e=>hi.2 e.symm)]
 have up:∀k,L k=true→cO L i k=true:=fun k hk=>by unfold cO;split<;>simp[hk]
 refine⟨fun k k1 k2 k3 => ?_,fun e=>up 5 (h2 (by rw[←e16];exact e)),by rw[e16];exact h3,by rw[e15,e16,y15];exact h4,by rw[e16,y16];exact h5⟩
 by_cases e:k+1=i
 ·exact up k (hd k k1 k2 e)
 refine up k (h1 k k1 k2 ?_);unfold cO at k3;rw[if_neg e] at k3;exact k3
theorem UG {P:PS} {e:Nat} (hb:Below W.heap.size W W') (h14:L 14=true) (h:Fp S B b w P L y W) (hr:uk W' a e 1 (sW P)):Fp S B b w P (cO L 15) (dG y 15 (.slice a 1 e)) W':=by
 obtain⟨h1,h2,h3,h4,h5⟩:=iE _ _ _ _ hb h;have up:∀k,L k=true→cO L 15 k=true:=fun k hk=>by unfold cO;split<;>simp[hk]
 refine⟨fun k k1 k2 k3 => ?_,fun e=>h2 e,h3,fun _ _=>⟨a,e,rfl,hr⟩,h5⟩
 by_cases e:k+1=15
 ·obtain rfl:k=14:=by omega
  exact up 14 h14
 refine up k (h1 k k1 k2 ?_);unfold cO at k3;rw[if_neg e] at k3;exact k3
theorem Un {P:PS} (h15:L 15=true) (h5' : L 5=true) (h16:L 16=false) (h:Fp S B b w P L y W) (hg:W.grownBy W' (Value.slice S.H.ap S.H.sp.length S.H.cp).ownBlock)
 (ho:Own W' B 55 10 v (S.H.sp.length+1) (S.H.sp.flatMap sW++sW P)) (hs:oo W (.slice S.H.ap S.H.sp.length S.H.cp) v):Fp S B b w P (cO L 16) (dG y 16 v) W':=by
 obtain⟨h1,h2,h3,h4,h5⟩:=h;have up:∀k,L k=true→cO L 16 k=true:=fun k hk=>by unfold cO;split<;>simp[hk]
 refine⟨fun k k1 k2 k3 => ?_,fun _=>h5',fun e=>(by cases e),fun _ e=>(by cases e),fun _=>⟨W,(h3 h16).1,(h3 h16).2,hg,ho,hs⟩⟩
 by_cases e:k+1=16
 ·obtain rfl:k=15:=by omega
  exact up 15 h15
 refine up k (h1 k k1 k2 ?_);unfold cO at k3;rw[if_neg e] at k3;exact k3
theorem Ch {P:PS} (h:Fp S B b w P L y W) (hi:L i=false) (hk:i=5∨(10≤i∧i≤16)):ed W B b S∧MS w b S W S:=by
 refine h.2.2.1 ?_;cases e:L 16 with
 | false=>rfl
 | true=>
  exfalso;rcases hk with rfl|⟨k1,k2⟩
  ·rw[h.2.1 e] at hi;cases hi
  have:∀d,d≤6→L (16-d)=true:=by
   intro d
   induction d with
   | zero=>intro _;exact e
   | succ d ih=>intro hd;exact h.1 (16-(d+1)) (by omega) (by omega) (by rw[show 16-(d+1)+1=16-d by omega];exact ih (by omega))
  have h9:=this (16-i) (by omega);rw[show 16-(16-i)=i by omega,hi] at h9;cases h9
def Ws (S:MW) (B b:Nat) (w:World) (r:Ending) (w' : World):Prop:=∃S',r = .returned (.tuple #[])∧ed w' B b S'∧MS w b S w' S'∧More S S'
theorem UM (t:List En) (k:Nat) (hk:k<64):(tL t).toArray.extract (k*3) (k*3+3)=jw (t.getD k zEn):=by
 apply lS;intro j;rw[Array.getElem?_extract];have hs:(tL t).toArray.size=192:=by simp[yo]
 by_cases hj:j<3
 ·rw[if_pos (by omega)];have:=Oe t k j hk hj;simpa[kS] using this
 ·rw[if_neg (by omega),lg (by show 3≤j;omega)]
theorem entry_size3:(Tryz.prog.info? 89).map (·.size)=some 3:=by kernel_rfl
theorem Hq (t:List En) (k:Nat) (hk:k<64) (e:En) (he:t.getD k zEn=e) (w:World):(Instr.index 90 (.agg (tL t).toArray) (.int .i64 k)).run Tryz.prog w = .ok (.agg (jw e)) w:=
 wM underlying90 underlying89 rfl entry_size3 _ k _ hk (by rw[←he];exact UM t k hk) _ w
def LM (S0 S S' : MW) (B b:Nat) (w:World) (gx gf:Nat) (e:En) (F:Array Value):(Nat→Bool)→(Nat→Value)→World→Prop:=fun L _ W=>
 (aB W gx (jw e) 89∧aB W gf F 110)∧(L 14=false→ed W B b S∧MS w b S0 W S)∧(L 14=true→ed W B b S'∧MS w b S0 W S')
theorem aZ {e:En} {F:Array Value}:∀L y W W',Below W.heap.size W W'→LM S0 S S' B b w gx gf e F L y W→LM S0 S S' B b w gx gf e F L y W':=
 fun _ _ _ _ hb ⟨h1,h2,h3⟩=>⟨⟨h1.1.ext hb,h1.2.ext hb⟩,fun e=>⟨(h2 e).1.below hb,(h2 e).2.below hb⟩,fun e=>⟨(h3 e).1.below hb,(h3 e).2.below hb⟩⟩
theorem Ck {e:En} {F:Array Value} (h:LM S0 S S' B b w gx gf e F L y W) (hk:(iV S')[12]?=(iV S)[12]?):W.cell? ⟨b,12,none⟩=(iV S)[12]?:=by
 cases hL:L 14 with
 | false=>exact (h.2.1 hL).1.blk.cell 12
 | true=>rw[←hk];exact (h.2.2 hL).1.blk.cell 12
theorem si {T:List (List En)} (ok:Am m T) (hl:m.sp.length=2) {x:En} (hn:n<64) (hx:eX x=0) (q j:Nat) (hj:j≠n):fe (setL (setL T 0 n x) 1 n x) q j=fe T q j:=by
 rw[wK (ok.set (p:=0) (by omega) hx) (by omega) hn,if_neg (fun h=>hj h.2),wK ok (by omega) hn,if_neg (fun h=>hj h.2)]
theorem Kc {y:Operand} {k:IntKind} (ho:o.op = .indexAddr 30 x y) (hx:ρ x = .slice (some ⟨b,off,none⟩) n c) (hy:ρ y = .int k (i:Int)) (hi:i<n) :
  (execOp ρ o).run Tryz.prog w = .ok (.value (.pointer (some ⟨b,off+i,none⟩))) w:=by
 have:=bF (P:=Tryz.prog) (w:=w) ho hx hy hi underlying30 (show (Tryz.prog.info? 3).map (·.size)=some 1 by kernel_rfl);rw[this,sH]
theorem ed.locE (h:ed w B b S) (hk:aB w g cs 89) (hn:¬mP b S g) (hsp:∀p∈S.H.sp,∀k v,k<8→(nP p.ts)[k]?=some v→v.ownBlock≠some g) (hgB:B≤g) (hg:w.grownBy w' (some g)):ed w' B b S:=by
 have d:∀ {a:Option Addr},oB a∈gZ S→∀n c g',(Value.slice a n c).ownBlock=some g'→some g≠some g':=fun hm n c g' he e=>by cases e;rw[lK] at he;exact hn (.inr (by rw[←he];exact hm))
 exact⟨h.blk.grown hg (fun e=>hn (.inl (aJ e))),h.ge,⟨h.ma.fr.grown hg (d (by simp[gZ]) _ _),h.ma.sl.grown hg (d (by simp[gZ]) _ _),⟨h.ma.sw.b.grown hg (d (by simp[gZ]) _ _),h.ma.sw.q.grown hg (fun g' he=>by rw[h.n3] at he;cases he)⟩,⟨h.ma.dk.b.grown hg (d (by simp[gZ]) _ _),h.ma.dk.q.grown hg (d (by simp[gZ]) _ _)⟩,
  ⟨h.ma.st.own.grown hg (d (by simp[gZ]) _ _),fun i p hp=>ak (h.ma.st.each i p hp) hk (by decide) hg,h.ma.st.apart⟩,h.ma.ca.grown hg (d (by simp[gZ]) _ _),h.ma.sp.grown hg (d (by simp[gZ]) _ _),fun p hp=>⟨ak (h.ma.ps p hp).1 hk (by decide) hg,⟨(h.ma.ps p hp).2.sz,fun k f=>by obtain⟨v,h1,h2⟩:=(h.ma.ps p hp).2.own k f;exact⟨v,h1,h2.grown hg (fun g' he e=>by cases e;exact hsp p hp k v f h1 he)⟩,(h.ma.ps p hp).2.apart⟩⟩,h.ma.c64⟩,
  h.tt.grown hg (d (by simp[gZ]) _ _),h.rd.keep h.ra h.bs hg hgB,h.ra,h.n1,h.n2,h.n3⟩
theorem ed.newE (h:ed w B b S) {x:Nat} (hx:w.heap.size≤x):∀p∈S.H.sp,∀k v,k<8→(nP p.ts)[k]?=some v→v.ownBlock≠some x:=fun p hp k v hk hv he=>by
 obtain⟨v',h1,h2⟩:=(h.ma.ps p hp).2.own k hk;rw[hv] at h1;cases h1;have:=Ii h2 x he;omega
theorem Qx (S:MW) (B b:Nat) (w:World) (h:ed w B b S) (hd:Bd S.H.ma S.T) (hf:Oc S) (hl:S.H.sp.length=1) :
  Calls Tryz.prog 34 #[.pointer (some ⟨b,0,none⟩)] w (Ws S B b w):=by
 obtain⟨p0,gK⟩:=List.length_eq_one_iff.1 hl;have gP:=Lib.hid hd;have qn:=Lib.hid hf;have qI:=Lib.hid h.bs;have kc:=Lib.hid gK;obtain⟨gp,op,cap,cur,hv,gi,hP,gh,kg,kj⟩:=h.ma.sp.put sO (by decide) 0 (by rw[hl];decide);have kZ:S.H.ap=some ⟨gp,op,none⟩:=(ng hv).1;have kY:∀W,ed W B b S→W.cell? ⟨gp,op+1,none⟩=some (.slice p0.aa p0.ar.length p0.ac):=fun W hW=>by
  obtain⟨g2,o2,_,_,k8,_,_,_,qp,_⟩:=hW.ma.sp.put sO (by decide) 0 (by rw[hl];decide);have e9:(some (⟨g2,o2,none⟩:Addr))=some ⟨gp,op,none⟩:=(ng k8).1.symm.trans kZ;cases e9;have e0:S.H.sp[0]'(by rw[hl];decide)=p0:=by simp[gK]
  rw[e0] at qp;have:=qp 1 _ rfl;simpa using this
 clear hd hf gK hv hP gh kg kj;go_enter func34,ntmps34;go_upto_region 0 with (fail);refine gN 20 [_,_,_,_,_,.v (.slice (some ⟨gp,op,none⟩) 1 S.H.cp),_,_,_,_,.v (.slice (some ⟨gp,op,none⟩) 1 S.H.cp),_,_,.v (.slice p0.aa p0.ar.length p0.ac),.v (.agg (vT ⟨true,p0.aa,p0.ac,p0.ar,nTs,zTb⟩)),.r 15 ((bW fun _=>True)),.r 16 ((bW fun _=>True)),_,_,_] (Fp S B b w ⟨true,p0.aa,p0.ac,p0.ar,nTs,zTb⟩) iE (fun _=>⟨fun k _ _ e=>(by cases e),fun e=>(by cases e),fun _=>⟨h,MS.refl _ _ _⟩,fun e=>(by cases e),fun e=>(by cases e)⟩) (Qk iE rfl (Qk iE rfl (Qk iE rfl (Qf iE b 1 rfl rfl (Qf iE b 11 rfl rfl (ag ?_ (Qk iE rfl (Qk iE rfl (Qf iE b 1 rfl rfl (Qf iE b 11 rfl rfl (ag ?_ (Qr iE (.pointer (some ⟨gp,op,none⟩)) (fun ρ y W o=>(bF (i:=0) rfl (aF rfl o) (aF rfl o) (by decide) underlying39 space_size)) rfl rfl (Qf iE gp (op+1) rfl rfl (ag ?_ (ag ?_ (ag ?_ (ag ?_ (Qk iE rfl (Qf iE b 1 rfl rfl (Qf iE b 11 rfl rfl (aC) (fun _ _ _ _ c h=>je (by decide) (by intro k h1 h2 e;first | omega | (obtain rfl:=kM e;exact c _ rfl)) h)) (fun _ _ _ _ c h=>je (by decide) (by intro k h1 h2 e;first | omega | (obtain rfl:=kM e;exact c _ rfl)) h)) (fun _ _ _ _ c h=>je (by decide) (by intro k h1 h2 e;first | omega | (obtain rfl:=kM e;exact c _ rfl)) h)))))) (fun _ _ _ _ c h=>je (by decide) (by intro k h1 h2 e;first | omega | (obtain rfl:=kM e;exact c _ rfl)) h)) (fun _ _ _ _ c h=>je (by decide) (by intro k h1 h2 e;first | omega | (obtain rfl:=kM e;exact c _ rfl)) h))) (fun _ _ _ _ c h=>je (by decide) (by intro k h1 h2 e;first | omega | (obtain rfl:=kM e;exact c _ rfl)) h)) (fun _ _ _ _ c h=>je (by decide) (by intro k h1 h2 e;first | omega | (obtain rfl:=kM e;exact c _ rfl)) h)) (fun _ _ _ _ c h=>je (by decide) (by intro k h1 h2 e;first | omega | (obtain rfl:=kM e;exact c _ rfl)) h)) (fun _ _ _ _ c h=>je (by decide) (by intro k h1 h2 e;first | omega | (obtain rfl:=kM e;exact c _ rfl)) h))) (fun _ _ _ _ c h=>je (by decide) (by intro k h1 h2 e;first | omega | (obtain rfl:=kM e;exact c _ rfl)) h)) (fun _ _ _ _ c h=>je (by decide) (by intro k h1 h2 e;first | omega | (obtain rfl:=kM e;exact c _ rfl)) h)) (fun _ _ _ _ c h=>je (by decide) (by intro k h1 h2 e;first | omega | (obtain rfl:=kM e;exact c _ rfl)) h)) (fun _ _ _ _ c h=>je (by decide) (by intro k h1 h2 e;first | omega | (obtain rfl:=kM e;exact c _ rfl)) h)) (fun _ _ _ _ c h=>je (by decide) (by intro k h1 h2 e;first | omega | (obtain rfl:=kM e;exact c _ rfl)) h)) (fun _=>rfl) rfl ?_
 ·intro ρ y W L hw hn t c hb hd;refine eD iE (fun _ _ h=>je (by decide) (by intro k h1 h2 e;first | omega | (obtain rfl:=kM e;exact c _ rfl)) h) hb ?_;have E9:=hw 9 4 rfl;have h4:y 4=_:=hd 4 rfl;have hm:=(Ch hb t (by decide)).1;refine aj (.slice (some ⟨gp,op,none⟩) 1 S.H.cp) (ah rfl) (by simp[execOp,go_sem,E9,h4,hm.blk.cell,iV,kZ,hl]) rfl
 ·intro ρ y W L hw hn t c hb hd;refine eD iE (fun _ _ h=>je (by decide) (by intro k h1 h2 e;first | omega | (obtain rfl:=kM e;exact c _ rfl)) h) hb ?_;have qO:=hw 14 9 rfl;have h9:y 9=_:=hd 9 rfl;have hm:=(Ch hb t (by decide)).1;refine aj (.slice (some ⟨gp,op,none⟩) 1 S.H.cp) (ah rfl) (by simp[execOp,go_sem,qO,h9,hm.blk.cell,iV,kZ,hl]) rfl
 ·intro ρ y W L hw hn t c hb hd;refine eD iE (fun _ _ h=>je (by decide) (by intro k h1 h2 e;first | omega | (obtain rfl:=kM e;exact c _ rfl)) h) hb ?_;have qN:=hw 17 12 rfl;have hA:y 12=_:=hd 12 rfl;have hm:=(Ch hb t (by decide)).1;refine aj (.slice p0.aa p0.ar.length p0.ac) (ah rfl) (by simp[execOp,go_sem,qN,hA,kY W hm]) rfl
 ·intro ρ y W L hw hn t c hb hd;refine eD iE (fun _ _ h=>je (by decide) (by intro k h1 h2 e;first | omega | (obtain rfl:=kM e;exact c _ rfl)) h) hb ?_;have qM:=hw 18 13 rfl;have kC:y 13=_:=hd 13 rfl;have EC:∀v,ρ (.const v)=v:=fun v=>hn (.const v) trivial;refine aj (.agg (vT ⟨true,p0.aa,p0.ac,p0.ar,nTs,zTb⟩)) (ah rfl) (by simp[execOp,go_sem,qM,kC,EC,vT,nTs]) rfl
 ·intro ρ y W L hw hn t c hb hd;have qL:=hw 19 14 rfl;have qJ:y 14=_:=hd 14 rfl;refine eP (.slice (some ⟨W.heap.size,0,none⟩) 1 1) (ah rfl) ?_ (UG (W':=W.alloc (.cells (vT ⟨true,p0.aa,p0.ac,p0.ar,nTs,zTb⟩) 55)) ((Below.refl _ _).alloc (ay _) _) (c 14 rfl) hb ⟨ay _,by unfold maxLen;omega,fun e=>(by cases e),dP.new _ _ _⟩) trivial;simp[execOp,go_sem,qL.trans qJ,vT]
 ·intro ρ y W L hw hn t c hb hd;have qP:=hw 10 5 rfl;have h5:y 5=_:=hd 5 rfl;have qK:=hw 20 15 rfl;have gq:=hd 15 rfl;have hm:=(Ch hb t (by decide)).1;obtain⟨a,e,qx,gI⟩:=hb.2.2.2.1 (c 15 rfl) t;have qA:Own W B 55 10 (.slice S.H.ap S.H.sp.length S.H.cp) S.H.sp.length (S.H.sp.flatMap sW):=hm.ma.sp;refine kU (ah rfl) (pG _ _ _ rfl B 55 _ 10 224 underlying39 space_info rfl (by decide) (.slice S.H.ap S.H.sp.length S.H.cp) S.H.sp.length _ (by rw[hl,kZ];exact qP.trans h5) qA a 1 e _ (qK.trans qx) gI.nl gI.le rfl gI.rd (bS (by simp[vT,nTs,Value.oneCell'])) (by unfold maxLen;omega) (by omega) hm.bs) (fun v W1 h=>Un (c 15 rfl) (c 5 rfl) t hb h.2.1 h.1 h.2.2) (fun _ _ _=>trivial)
 intro y W1 gF qu;clear qu;obtain⟨w1,hq,gb,kx,own2,kJ⟩:=gF.2.2.2.2 rfl;clear gF h;have hC:Own w1 B 55 10 (.slice S.H.ap S.H.sp.length S.H.cp) S.H.sp.length (S.H.sp.flatMap sW):=hq.ma.sp;have kN:p0∈S.H.sp:=by rw[kc.out];exact bv.2 rfl
 have gE:=zV hC kx hq.blk (by decide);have gv:∀p∈S.H.sp++[(⟨true,p0.aa,p0.ac,p0.ar,nTs,zTb⟩:PS)],Own W1 B 99 7 (.slice p.aa p.ar.length p.ac) p.ar.length (p.ar.flatMap mM)∧qG W1 B (nP p.ts) p.tb:=fun p hp=>by
  rcases fO.1 hp with hp|hp
  ·exact⟨iK hC kx (hq.ma.ps p hp).1 (by decide),Da hC kx (hq.ma.ps p hp).2⟩
  rw[bv.1 hp];exact⟨iK hC kx (hq.ma.ps p0 kN).1 (by decide),yS _ _⟩
 obtain⟨a2,c2,k8,_⟩:=own2.rd;rw[k8] at own2 kJ ⊢;clear k8;have kf:(S.H.sp++[(⟨true,p0.aa,p0.ac,p0.ar,nTs,zTb⟩:PS)]).length=S.H.sp.length+1:=by simp
 have own2' : Own W1 B 55 10 (.slice a2 (S.H.sp++[(⟨true,p0.aa,p0.ac,p0.ar,nTs,zTb⟩:PS)]).length c2) (S.H.sp++[(⟨true,p0.aa,p0.ac,p0.ar,nTs,zTb⟩:PS)]).length ((S.H.sp++[(⟨true,p0.aa,p0.ac,p0.ar,nTs,zTb⟩:PS)]).flatMap sW):=by rw[kf,eY];simpa using own2
 clear own2
 go_wp2_with (refine aA rfl _ _ _ rfl b 11 _ [.slice a2 (S.H.sp.length+1) c2] rfl rfl rfl _ _ gE (by show 11+1≤13;omega) (by kernel_rfl) (fun u hu=>by cases bv.1 hu;rfl) ?_)
 intro w3 qr kF;have h3:ed w3 B b { S with H:={ S.H with ap:=a2,cp:=c2,sp:=S.H.sp++[(⟨true,p0.aa,p0.ac,p0.ar,nTs,zTb⟩:PS)] } }:=hq.appP kx own2' gv (by rw[kf,hl];exact qr) kF;have s3:MS w b S w3 { S with H:={ S.H with ap:=a2,cp:=c2,sp:=S.H.sp++[(⟨true,p0.aa,p0.ac,p0.ar,nTs,zTb⟩:PS)] } }:=gb.app hq hC (by simp[gZ]) kx kF kJ (fun x hx=>by
  rcases hx with hx|hx
  ·exact .inl (.inl hx)
  simp only[gZ,bZ,fP,or_false] at hx;rcases hx with hx|hx|hx|hx|hx|hx|hx|hx|hx<;>first|exact .inr hx.symm|exact .inl (.inr (by simp[gZ,hx])))
 clear hq gb hC gE gv own2' qr kF kJ kx kY kZ
 -- process 0's areas
 obtain⟨g3,o3,_,_,qy,_,_,_,qo,_⟩:=h3.ma.sp.put sO (by decide) 0 (by simp);have qs:a2=some ⟨g3,o3,none⟩:=(ng qy).1;have c31:w3.cell? ⟨g3,o3+1,none⟩=some (.slice p0.aa p0.ar.length p0.ac):=by
  have e0:(S.H.sp++[(⟨true,p0.aa,p0.ac,p0.ar,nTs,zTb⟩:PS)])[0]'(by simp)=p0:=by simp[kc.out]
  rw[e0] at qo;have:=qo 1 _ rfl;simpa using this
 have hc:=h3.blk.cell;unfold iV at hc;dsimp only at hc;rw[qs,kf] at hc;have qw:=(h3.ma.ps p0 (oG _ kN)).1;have k7:Hid ((bI p0.ar).1=0):=Lib.hid (gP.out.rt.pt.ar ⟨p0.lv,p0.ar,fU (eU S.T 0)⟩ (by
  show _∈(List.range (S.H.sp.map PS.sp).length).map fun p=>({ fF S.H.ma p with tb:=fU (eU S.T p) }:Sp);rw[gW];refine⟨0,by rw[fo,hl];decide,?_⟩;have e1:fF S.H.ma 0=p0.sp:=by show (S.H.sp.map PS.sp).getD 0 zSp=_;rw[kc.out];rfl
  rw[e1];rfl))
 have qV:p0.ar.length≤16:=(jI.1 k7.out).1;have qa:=Lib.hid (nM (jI.1 k7.out).2)
 go_wp2_with fail
 refine (qU p0.ar p0.aa p0.ac _ (ug qw).rd (by omega) (fun x hx=>(srtF_ok qa.out x hx).1)).mono ?_;rintro r w4 ⟨rfl,gX⟩;have h4:=h3.below gX;have s4:=s3.below gX;have kr:=Lib.hid (jq (cz p0.ar));clear h3 s3 hc c31 qs gX qw
 go_wp2_with (refine aI rfl _ _ _ rfl (fC (cz p0.ar)) rfl rfl (by rw[kr.out];rfl) (by rw[kr.out];exact ones_size) (zU _) ?_)
 intro w5 gU fx5;have h5:=h4.below gU;have s5:=s4.below gU;have gd:=Lib.hid (h4.new (ay _));have qD:=Lib.hid s4.size;clear h4 s4 gU;generalize w4.heap.size=gf at *
 have qt:S.T.length=1:=by have h9:=gP.out.ok.len;have h8:S.H.ma.sp.length=S.H.sp.length:=fo _;omega
 have k1:=Lib.hid qt;have gL:=Lib.hid hl;clear qt hl;have hc:=h5.blk.cell;unfold iV at hc;dsimp only at hc;have ks:Own w5 B 90 192 (.slice S.ab S.T.length S.cb) S.T.length (S.T.flatMap tL):=h5.tt
 go_wp2_with (at_builtin;go_must (refine BJ rfl _ _ rfl (by kernel_rfl) B (.slice S.ab S.T.length S.cb) S.T.length (S.T.flatMap tL) rfl ks rfl (by have:=k1.out;omega) h5.bs ?_))
 intro v6 w6 own6 gk kI;have kk:=(Below.refl w5.heap.size w5).alloc (ay _) (.cells (tL (List.replicate 64 zEn)).toArray 90);have gn:=h5.below kk;have s5a:=s5.below kk;have hS:=ks.below kk;have gl:=fx5.ext kk;have kv:∀ {x:Nat} {cs:Array Value} {T:TypeId},aB (w5.alloc (.cells (tL (List.replicate 64 zEn)).toArray 90)) x cs T→T≠90→aB w6 x cs T:=fun gg hT=>by
  rcases ru hS gk with hb0|⟨g,cs,hk,_,hg'⟩
  ·exact gg.ext hb0
  ·exact bq gg hk (fun e=>hT e.symm) hg'
 have gD:=kv gn.blk (by decide);have fx6:=kv gl (by decide);have qF:∀x,v6.ownBlock=some x→x≠gf:=fun x hx e=>by
  rcases kI with e1|e1
  ·rw[e1] at hx;obtain⟨cs,hk⟩:=kQ hS x hx;rw[e] at hk;exact lQ hk gl (by decide) rfl
  have h9:=e1 x hx;rw[e] at h9;exact Nat.lt_irrefl _ (pY gl.lt h9)
 obtain⟨a4,c4,rfl,_⟩:=own6.rd;have qg:some gf=oB a4→False:=fun e=>qF gf (by rw[lK];exact e.symm) rfl;have ke:(S.T++[List.replicate 64 zEn]).length=S.T.length+1:=by simp
 have own6' : Own w6 B 90 192 (.slice a4 (S.T++[List.replicate 64 zEn]).length c4) (S.T++[List.replicate 64 zEn]).length ((S.T++[List.replicate 64 zEn]).flatMap tL):=by rw[ke,eY];simpa using own6
 clear hc h5 s5 ks own6 kk kv gl fx5
 go_wp2_with (refine aA rfl _ _ _ rfl b 12 _ [.slice a4 (S.T.length+1) c4] rfl rfl rfl _ _ gD (by show 12+1≤13;omega) (by kernel_rfl) (fun u hu=>by cases bv.1 hu;rfl) ?_)
 intro w7 qq gj;have h7:ed w7 B b { S with H:={ S.H with ap:=some ⟨g3,o3,none⟩,cp:=c2,sp:=S.H.sp++[(⟨true,p0.aa,p0.ac,p0.ar,nTs,zTb⟩:PS)] },ab:=a4,cb:=c4,T:=S.T++[List.replicate 64 zEn] }:=gn.appT gk own6' (by rw[ke];exact qq) gj;have s7:MS w b S w7 { S with H:={ S.H with ap:=some ⟨g3,o3,none⟩,cp:=c2,sp:=S.H.sp++[(⟨true,p0.aa,p0.ac,p0.ar,nTs,zTb⟩:PS)] },ab:=a4,cb:=c4,T:=S.T++[List.replicate 64 zEn] }:=s5a.app gn hS (by simp[gZ]) gk gj kI (fun x hx=>by
  rcases hx with hx|hx
  ·exact .inl (.inl hx)
  simp only[gZ,bZ,fP,or_false] at hx;rcases hx with hx|hx|hx|hx|hx|hx|hx|hx|hx<;>first|exact .inr hx.symm|exact .inl (.inr (by simp[gZ,hx])))
 have qe:gf≠b:=fun e=>gd.out (.inl e);have gw:Hid (¬mP b ({ S with H:={ S.H with ap:=some ⟨g3,o3,none⟩,cp:=c2,sp:=S.H.sp++[(⟨true,p0.aa,p0.ac,p0.ar,nTs,zTb⟩:PS)] },ab:=a4,cb:=c4,T:=S.T++[List.replicate 64 zEn] }:MW) gf):=Lib.hid fun hk=>by
  rcases hk with hk|hk
  ·exact gd.out (.inl hk)
  simp only[gZ,bZ,fP,or_false] at hk;have qT:gf<w6.heap.size:=fx6.lt;rcases hk with hk|hk|hk|hk|hk|hk|hk|hk|hk
  all_goals first
   | exact qg hk
   | exact gd.out (.inr (by simp[gZ,hk]))
 have fx7:=fx6.grown gj (fun e=>qe (aJ e).symm);clear gn s5a hS gD own6' qq gj kI gk fx6;have kD:({ S with H:={ S.H with ap:=some ⟨g3,o3,none⟩,cp:=c2,sp:=S.H.sp++[(⟨true,p0.aa,p0.ac,p0.ar,nTs,zTb⟩:PS)] },ab:=a4,cb:=c4,T:=S.T++[List.replicate 64 zEn] }:MW).H.ma = { S.H.ma with sp:=S.H.ma.sp++[⟨true,p0.ar,zTb⟩] }:=by simp[MH.ma,PS.sp]
 have ku:Hid (More S { S with H:={ S.H with ap:=some ⟨g3,o3,none⟩,cp:=c2,sp:=S.H.sp++[(⟨true,p0.aa,p0.ac,p0.ar,nTs,zTb⟩:PS)] },ab:=a4,cb:=c4,T:=S.T++[List.replicate 64 zEn] }):=Lib.hid ⟨by
  rw[kD];exact gP.out.more (s:=⟨true,p0.ar,zTb⟩) (by show (S.H.sp.map PS.sp).length<4;rw[fo,gL.out];decide) rfl k7.out,fun p hp n g hg=>by
  rcases fO.1 hp with hp|hp
  ·exact qn.out p hp n g hg
  rw[bv.1 hp] at hg;exact qn.out p0 kN n g hg,rfl,rfl,rfl,by simp,rfl⟩
 have qR:Hid (({ S with H:={ S.H with ap:=some ⟨g3,o3,none⟩,cp:=c2,sp:=S.H.sp++[(⟨true,p0.aa,p0.ac,p0.ar,nTs,zTb⟩:PS)] },ab:=a4,cb:=c4,T:=S.T++[List.replicate 64 zEn] }:MW).H.ma.sp.length=2):=Lib.hid (by rw[kD,jH];show (S.H.sp.map PS.sp).length+1=2;rw[fo,gL.out]);have qS:Hid ((fF ({ S with H:={ S.H with ap:=some ⟨g3,o3,none⟩,cp:=c2,sp:=S.H.sp++[(⟨true,p0.aa,p0.ac,p0.ar,nTs,zTb⟩:PS)] },ab:=a4,cb:=c4,T:=S.T++[List.replicate 64 zEn] }:MW).H.ma 0).ar=p0.ar∧(fF ({ S with H:={ S.H with ap:=some ⟨g3,o3,none⟩,cp:=c2,sp:=S.H.sp++[(⟨true,p0.aa,p0.ac,p0.ar,nTs,zTb⟩:PS)] },ab:=a4,cb:=c4,T:=S.T++[List.replicate 64 zEn] }:MW).H.ma 1).ar=p0.ar):=Lib.hid (by
  rw[kD];have e:S.H.ma.sp=[p0.sp]:=by show S.H.sp.map PS.sp=_;rw[kc.out];rfl
  unfold fF;simp only[e];exact⟨rfl,rfl⟩)
 obtain⟨t0,k9⟩:=List.length_eq_one_iff.1 k1.out;have gC:Hid ((∀j:Nat,fe ({ S with H:={ S.H with ap:=some ⟨g3,o3,none⟩,cp:=c2,sp:=S.H.sp++[(⟨true,p0.aa,p0.ac,p0.ar,nTs,zTb⟩:PS)] },ab:=a4,cb:=c4,T:=S.T++[List.replicate 64 zEn] }:MW).T 0 j=t0.getD j zEn)∧∀j:Nat,(fe ({ S with H:={ S.H with ap:=some ⟨g3,o3,none⟩,cp:=c2,sp:=S.H.sp++[(⟨true,p0.aa,p0.ac,p0.ar,nTs,zTb⟩:PS)] },ab:=a4,cb:=c4,T:=S.T++[List.replicate 64 zEn] }:MW).T 1 j).k=0):=Lib.hid (by unfold fe eU;simp only[k9];refine⟨fun j=>rfl,fun j => ?_⟩;show ((List.replicate 64 zEn).getD j zEn).k=0;rw[aS,nI];split<;>rfl);obtain⟨gT,oT,_,_,g9,_,_,_,gS,_⟩:=h7.tt.put yo (by decide) 0 (by simp);have qE:a4=some ⟨gT,oT,none⟩:=(ng g9).1;have gu:dP w7 (some ⟨gT,oT,none⟩) (tL t0):=fun j u hj=>⟨gT,oT,rfl,by
  have e0:(S.T++[List.replicate 64 zEn])[0]'(by simp)=t0:=by simp[k9]
  rw[e0] at gS;simpa using gS j u hj⟩
 have kB:(S.T++[List.replicate 64 zEn]).length=2:=by rw[ke,k1.out]
 have hc:=h7.blk.cell;unfold iV at hc;dsimp only at hc;rw[qE,kB] at hc;have qQ:=Lib.hid k9;clear kD k9 g9 gS;have gt:(Tryz.prog.info? 90).map (·.size)=some (tL t0).length:=by rw[yo];exact ents_size
 have kH:=Lib.hid gt;clear gt;go_upto_region 3 with (fail);clear qe ke kf qI gd qD kr k7;go_upto_region 4 with (refine ax _ _ rfl gT oT rfl rfl (tL t0) gu _ underlying90 rfl kH.out ?_);have h7:ed w7 B b { S with H:={ S.H with ap:=some ⟨g3,o3,none⟩,cp:=c2,sp:=S.H.sp++[(⟨true,p0.aa,p0.ac,p0.ar,nTs,zTb⟩:PS)] },ab:=a4,cb:=c4,T:=S.T++[List.replicate 64 zEn] }:=h7;have qC:Hid (({ S with H:={ S.H with ap:=some ⟨g3,o3,none⟩,cp:=c2,sp:=S.H.sp++[(⟨true,p0.aa,p0.ac,p0.ar,nTs,zTb⟩:PS)] },ab:=a4,cb:=c4,T:=S.T++[List.replicate 64 zEn] }:MW).T.length=2):=Lib.hid kB;clear hc gu kH kB;have gG:Hid (({ S with H:={ S.H with ap:=some ⟨g3,o3,none⟩,cp:=c2,sp:=S.H.sp++[(⟨true,p0.aa,p0.ac,p0.ar,nTs,zTb⟩:PS)] },ab:=a4,cb:=c4,T:=S.T++[List.replicate 64 zEn] }:MW).H.sp=S.H.sp++[(⟨true,p0.aa,p0.ac,p0.ar,nTs,zTb⟩:PS)]):=Lib.hid rfl;have qH:Hid (({ S with H:={ S.H with ap:=some ⟨g3,o3,none⟩,cp:=c2,sp:=S.H.sp++[(⟨true,p0.aa,p0.ac,p0.ar,nTs,zTb⟩:PS)] },ab:=a4,cb:=c4,T:=S.T++[List.replicate 64 zEn] }:MW).T=S.T++[List.replicate 64 zEn]):=Lib.hid rfl;generalize ({ S with H:={ S.H with ap:=some ⟨g3,o3,none⟩,cp:=c2,sp:=S.H.sp++[(⟨true,p0.aa,p0.ac,p0.ar,nTs,zTb⟩:PS)] },ab:=a4,cb:=c4,T:=S.T++[List.replicate 64 zEn] }:MW)=S5 at *
 go_loopw [50] (fun i wr => ∃(n:Nat) (Sn:MW),n≤64∧i = .int .i64 n∧ed wr B b Sn∧MS w b S wr Sn∧aB wr gf (fC (cz p0.ar)) 110∧Hid (¬mP b Sn gf)∧Hid (Jj S5 Sn∧Bd Sn.H.ma Sn.T∧∀j:Nat,n≤j→fe Sn.T 0 j=t0.getD j zEn∧(fe Sn.T 1 j).k=0)) (fun i _=>64-(intOf i).toNat)
 case atStart=>exact⟨0,S5,aV _,rfl,h7,s7,fx7,gw,Lib.hid ⟨.refl _,ku.out.bd,fun j _=>by rw[qH.out];exact⟨gC.out.1 j,gC.out.2 j⟩⟩⟩
 case round=>
  clear h7 s7 fx7 gw;obtain⟨n,Sn,hn,rfl,hm,hs,fx,ge,hN⟩:=hrel
  by_cases hn64:n<64
  ·have qB:(n:Int)<64:=by omega
   obtain⟨e,he⟩:∃e,t0.getD n zEn=e:=⟨_,rfl⟩;have qh:=Hq t0 n hn64 e he;unfold jw at qh;have gO:=Lib.hid he;clear he;have hO:Sn.T.length=2:=by have h9:=hN.out.2.1.ok.len;rw[h9];show (Sn.H.sp.map PS.sp).length=2;rw[fo,hN.out.1.sp,ku.out.sp,gL.out]
   have ko:Hid (∀p,p<2→(eU Sn.T p).length=64):=Lib.hid fun p hp=>hN.out.2.1.ok.l64 (by rw[←hN.out.2.1.ok.len,hO];exact hp);go_upto_region 6 with (fail);refine gB (fun W=>Code.wp _ _ _ _ W) fun W1 gm bx1 gb => ?_;have hq:=hm.below gm;have sm1:=hs.below gm;have fx1:=fx.ext gm;have z:=Lib.hid (hm.new (ay _));have qm:=Lib.hid (hm.newE (ay _));have qj:B≤wr.heap.size:=hm.bs;have qi:=Lib.hid hs.size;have qk:gf≠wr.heap.size:=fun e9=>by have:=fx.lt;omega
   have ky:=bx1.cell;clear gb gm hm hs fx qh;generalize wr.heap.size=gx at *
   by_cases hk1:e.k=1
   ·have hK:=hN.out.1;have hB:=hN.out.2.1;have hL:Sn.H.ma.sp.length=2:=by rw[←hB.ok.len];exact hO
    have hh:fe Sn.T 0 n=e:=by rw[(hN.out.2.2 n (ay _)).1];exact gO.out
    have hE:=yN hB.ok (p:=0) (n:=n) (by omega) hn64;rw[hh] at hE;have kh:=lG hB.ok (p:=0) (n:=n) (by omega) hn64;rw[hh] at kh;obtain⟨g,hI,hY⟩:=hB.rt.en 0 n (by rw[kh,hk1];decide);rw[kh] at hY;have kO:0≤e.n:=by rcases (dx _).1 hE with h9 | h9 | h9<;>omega
    obtain⟨f,kX⟩:=fE kO;have kW:f<Sn.H.m.fs.length:=by have h9:=hY.lt hk1;have e1:((dU Sn.H.ma Sn.T).m.fs.length:Nat)=Sn.H.m.fs.length:=rfl;omega
    rw[nU (by omega)] at hI;have ki:(fF Sn.H.ma 1).ar=(fF Sn.H.ma 0).ar∧(fF Sn.H.ma 0).ar=p0.ar:=by
     have e1:Sn.H.ma.sp=[p0.sp,⟨true,p0.ar,zTb⟩]:=by show Sn.H.sp.map PS.sp=_;rw[hK.sp,gG.out,kc.out];rfl
     unfold fF;rw[e1];exact⟨rfl,rfl⟩
    have gc:cz p0.ar n=some g:=by rw[qZ qa.out,←ki.2];exact hI
    obtain⟨ga,off,cap,cur,hv,gi,hP,gh,kg,kj⟩:=hq.ma.fr.put fJ (by decide) f kW;have g0:Sn.H.af=some ⟨ga,off,none⟩:=(ng hv).1;have hX:aN Sn.H.ma f=Sn.H.m.fs[f]:=by unfold aN;show Sn.H.m.fs.getD f fr0=_;rw[aS,aH kW];rfl
    have qc:=hB.rt.fewR (f:=f) kW;have qz:0≤(Sn.H.m.fs[f]).r∧(Sn.H.m.fs[f]).r≤257:=by rw[←hX];exact qc
    have g1:=Lib.hid hX;have kV:=Lib.hid kj;have gz : Hid (∀j u,(qf Sn.H.m.fs[f])[j]?=some u→cur[off+f*13+j]?=some u):=Lib.hid fun j u hj=>by rw[←hP.cell];exact kg j u hj
    have kA:∀W,Below W1.heap.size W1 W→W.cell? ⟨ga,off+f*13+8,none⟩=some (.int .i64 (Sn.H.m.fs[f]).r):=fun W hb=>by rw[(hP.ext hb).cell,←hP.cell];exact kg 8 _ rfl
    have k0:=Lib.hid (And.intro hI (And.intro hL (And.intro ki (And.intro hE (And.intro hh gc)))));clear hX kj kg qc hv hI hY hE kh hK hB hL kO ki hh gc;generalize Sn.H.m.fs[f]=X at kA qz g1 gz;have gJ:IntKind.i64.wrap (X.r+1)=X.r+1:=bM _ (by omega);go_upto_region 7 with (fail);refine aM 14 [_,_,_,_,_,_,_,_,_,_,_,_,_,_] (Gk rfl (Gk rfl (Gf b 1 rfl rfl (Gf b 1 rfl rfl (Gf b 1 rfl rfl (Gl hq.blk (V:=.slice (some ⟨ga,off,none⟩) Sn.H.m.fs.length Sn.H.cf) (by simp[iV,g0]) rfl rfl rfl rfl (Gf gx 1 rfl rfl (Gl bx1 (V:=.int .i64 (f:Int)) (by simp[jw,kX]) rfl rfl rfl rfl (Gr (.pointer (some ⟨ga,off+f*13,none⟩)) (fun ρ y W hb o=>(bF rfl (aF rfl o) (aF rfl o) kW underlying26 frame_size)) rfl rfl (Gf ga (off+f*13+8) rfl rfl (Gc (.int .i64 X.r) (fun W hb=>by simp[kA _ hb]) rfl rfl rfl rfl (Gb (.int .i64 (X.r+1)) (by simp[go_sem,gJ]) rfl rfl rfl rfl rfl (Gr (.pointer (some ⟨ga,off+f*13,none⟩)) (fun ρ y W hb o=>(bF rfl (aF rfl o) (aF rfl o) kW underlying26 frame_size)) rfl rfl (Gf ga (off+f*13+8) rfl rfl (aC))))))))))))))) (fun _=>rfl) rfl ?_;intro y W8 hi _;have hr:=hP.ext hi;have kR:=hq.below hi;have sm8:=sm1.below hi;have bx8:=bx1.ext hi;have fx8:=fx1.ext hi;clear hq sm1 bx1 fx1 hP ky kA hi
    go_wp2_with (refine aA rfl _ _ _ rfl ga (off+f*13+8) _ [.int .i64 (X.r+1)] rfl rfl rfl _ _ hr (by show off+f*13+8+1≤cur.size;omega) (by kernel_rfl) (fun u hu=>by cases bv.1 hu;rfl) ?_)
    intro w9 kG hV;rw[KD (by omega) (fun j u hj=>gz.out j u hj)] at kG;have k6:ed w9 B b (Sn.frs (Sn.H.m.fs.set f (iy X))):=kR.putF hr gi hV (fs:=Sn.H.m.fs.set f (iy X)) (by simp) (by simpa using kV.out _ _ kG);have gy:mP b Sn ga:=.inr (by simp only[gZ,g0];exact gV);have sx0:MS w b S w9 (Sn.frs (Sn.H.m.fs.set f (iy X))):=sm8.put hV gy (fun x hx => .inl hx);have bx9:=bq bx8 hr (by decide) hV;have fx9:=bq fx8 hr (by decide) hV;have kF:w9.cell? ⟨gf,n*6+3,none⟩=some (.bool g.sh):=by rw[fx9.cell];exact zw (cz p0.ar) n 3 hn64 _ (by rw[k0.out.2.2.2.2.2];rfl) (by decide)
    have ky:=bx9.cell;clear kR sm8 bx8 fx8 hr kG hV g0 gy;unfold jw at ky;cases hsh:g.sh
    case' true=>
     rw[hsh] at kF;have hx:=k6;have sx:=sx0;have bx:=bx9;have fx1:=fx9;have hF:Hid (¬mP b (Sn.frs (Sn.H.m.fs.set f (iy X))) gf):=ge;have z:Hid (¬mP b (Sn.frs (Sn.H.m.fs.set f (iy X))) gx):=z;have hG:(Sn.frs (Sn.H.m.fs.set f (iy X))).T.length=2:=hO;have ha:(eU (Sn.frs (Sn.H.m.fs.set f (iy X))).T 0).length=64:=ko.out 0 (by decide);have hz:(eU (Sn.frs (Sn.H.m.fs.set f (iy X))).T 1).length=64:=ko.out 1 (by decide);have hy:Hid (Jj S5 { (Sn.frs (Sn.H.m.fs.set f (iy X))) with T:=setL (setL (Sn.frs (Sn.H.m.fs.set f (iy X))).T 0 n e) 1 n e }∧Bd (Sn.frs (Sn.H.m.fs.set f (iy X))).H.ma (setL (setL (Sn.frs (Sn.H.m.fs.set f (iy X))).T 0 n e) 1 n e)∧∀j:Nat,n+1≤j→fe (setL (setL (Sn.frs (Sn.H.m.fs.set f (iy X))).T 0 n e) 1 n e) 0 j=t0.getD j zEn∧(fe (setL (setL (Sn.frs (Sn.H.m.fs.set f (iy X))).T 0 n e) 1 n e) 1 j).k=0):=Lib.hid (by
      have hK:=hN.out.1;have hB:=hN.out.2.1;obtain⟨hI,hL,ki,hE,hh,gc⟩:=k0.out;have hA:=hB.share1 (w:=e.w) hL hn64 ki.1 (by rw[hh];exact hk1) (hN.out.2.2 n (ay _)).2 hI (by rw[hh];exact kX) (by rw[hh,hsh];rfl);rw[g1.out,show (⟨1,(f:Int),e.w⟩:En)=e from by rw[←kX,←hk1]] at hA;have k2:eX e=0:=by
       rw[dx] at hE ⊢;rcases hE with h9|h9|h9
       ·omega
       ·first
        | exact .inr (.inl ⟨h9.1,h9.2⟩)
        | exact .inr (.inl ⟨rfl,by show (0:Int)≤f;omega,by show (f:Int)<40;omega⟩)
       ·omega
      exact⟨⟨hK.sp,hK.fi,hK.ct,hK.dk,by show (Sn.H.m.fs.set f (iy X)).length=_;rw[bH];exact hK.fl,hK.sl⟩,hA,fun j hj=>by show fe (setL (setL Sn.T 0 n e) 1 n e) 0 j=_∧(fe (setL (setL Sn.T 0 n e) 1 n e) 1 j).k=0;rw[si hB.ok hL hn64 k2 _ _ (by omega),si hB.ok hL hn64 k2 _ _ (by omega)];exact hN.out.2.2 j (by omega)⟩)
     generalize hSx:(Sn.frs (Sn.H.m.fs.set f (iy X)))=Sx at hx sx hF z hG ha hz hy;clear k6 sx0 bx9 fx9;obtain⟨gT2,oT2,_,d,kw,kT,_⟩:=hx.ent (p:=0) (n:=n) (by omega) hn64 ha;have kd:gx≠gT2:=fun e9=>z.out (.inr (by rw[e9];simp[gZ,d,oB];right;right;right;right;right;right;right;right;rfl));have hD:gf≠gT2:=fun e9=>hF.out (.inr (by rw[e9];simp[gZ,d,oB];right;right;right;right;right;right;right;right;rfl));go_upto_region 12 with (fail);refine nA 17 [_,_,_,.v (.slice (some ⟨gT2,oT2,none⟩) 2 Sx.cb),_,_,_,_,.v (.slice (some ⟨gT2,oT2,none⟩) 2 Sx.cb),_,.v (.agg (jw e)),.v (.agg (jw e)),_,.v (.pointer (some ⟨gT2,oT2+n*3,none⟩)),.r 14 ((bW fun _=>True)),_,.v (.pointer (some ⟨gT2,oT2+192+n*3,none⟩))] (LM S Sx { Sx with T:=setL Sx.T 0 n e } B b w gx gf e (fC (cz p0.ar))) aZ (fun _=>⟨⟨bx,fx1⟩,fun _=>⟨hx,sx⟩,fun h=>(by cases h)⟩) (Qk aZ rfl (Qk aZ rfl (Qf aZ b 12 rfl rfl (ag ?u1_1 (Qk aZ rfl (Qk aZ rfl (Qk aZ rfl (Qf aZ b 12 rfl rfl (ag ?u1_2 (Qk aZ rfl (ag ?u1_3 (ag ?u1_4 (Qr aZ (.pointer (some ⟨gT2,oT2,none⟩)) (fun ρ y W o=>(bF (i:=0) rfl (aF rfl o) (aF rfl o) (by decide) underlying75 ents_size)) rfl rfl (ag ?u1_5 (ag ?u1_6 (Qr aZ (.pointer (some ⟨gT2,oT2+192,none⟩)) (fun ρ y W o=>(bF (i:=1) rfl (aF rfl o) (aF rfl o) (by decide) underlying75 ents_size)) rfl rfl (ag ?u1_7 (aC)))))))))))))))))) (fun _=>rfl) rfl ?u1_8
    case' false=>
     rw[hsh] at kF
     go_wp2_with (refine aA rfl _ _ _ rfl gx 2 _ [.bool false] rfl rfl rfl _ _ bx9 (by show 2+1≤3;omega) (by kernel_rfl) (fun u hu=>by cases bv.1 hu;rfl) ?_)
     intro w10 bx q;have bx:aB w10 gx (jw ⟨1,(f:Int),false⟩) 89:=bx;have hx:ed w10 B b (Sn.frs (Sn.H.m.fs.set f (iy X))):=k6.locE bx9 z.out qm.out qj q;have sx:=sx0.loc q qi.out;have fx1:=fx9.grown q (fun e9=>qk (aJ e9).symm);clear ky;have ky:=bx.cell;unfold jw at ky;have hF:Hid (¬mP b (Sn.frs (Sn.H.m.fs.set f (iy X))) gf):=ge;have z:Hid (¬mP b (Sn.frs (Sn.H.m.fs.set f (iy X))) gx):=z;have hG:(Sn.frs (Sn.H.m.fs.set f (iy X))).T.length=2:=hO;have ha:(eU (Sn.frs (Sn.H.m.fs.set f (iy X))).T 0).length=64:=ko.out 0 (by decide);have hz:(eU (Sn.frs (Sn.H.m.fs.set f (iy X))).T 1).length=64:=ko.out 1 (by decide);have hy:Hid (Jj S5 { (Sn.frs (Sn.H.m.fs.set f (iy X))) with T:=setL (setL (Sn.frs (Sn.H.m.fs.set f (iy X))).T 0 n (⟨1,(f:Int),false⟩:En)) 1 n (⟨1,(f:Int),false⟩:En) }∧Bd (Sn.frs (Sn.H.m.fs.set f (iy X))).H.ma (setL (setL (Sn.frs (Sn.H.m.fs.set f (iy X))).T 0 n (⟨1,(f:Int),false⟩:En)) 1 n (⟨1,(f:Int),false⟩:En))∧∀j:Nat,n+1≤j→fe (setL (setL (Sn.frs (Sn.H.m.fs.set f (iy X))).T 0 n (⟨1,(f:Int),false⟩:En)) 1 n (⟨1,(f:Int),false⟩:En)) 0 j=t0.getD j zEn∧(fe (setL (setL (Sn.frs (Sn.H.m.fs.set f (iy X))).T 0 n (⟨1,(f:Int),false⟩:En)) 1 n (⟨1,(f:Int),false⟩:En)) 1 j).k=0):=Lib.hid (by
      have hK:=hN.out.1;have hB:=hN.out.2.1;obtain⟨hI,hL,ki,hE,hh,gc⟩:=k0.out;have hA:=hB.share1 (w:=false) hL hn64 ki.1 (by rw[hh];exact hk1) (hN.out.2.2 n (ay _)).2 hI (by rw[hh];exact kX) (by rw[hh,hsh];rfl);rw[g1.out,show (⟨1,(f:Int),false⟩:En)=(⟨1,(f:Int),false⟩:En) from by rw[←kX,←hk1]] at hA;have k2:eX (⟨1,(f:Int),false⟩:En)=0:=by
       rw[dx] at hE ⊢;rcases hE with h9|h9|h9
       ·omega
       ·first
        | exact .inr (.inl ⟨h9.1,h9.2⟩)
        | exact .inr (.inl ⟨rfl,by show (0:Int)≤f;omega,by show (f:Int)<40;omega⟩)
       ·omega
      exact⟨⟨hK.sp,hK.fi,hK.ct,hK.dk,by show (Sn.H.m.fs.set f (iy X)).length=_;rw[bH];exact hK.fl,hK.sl⟩,hA,fun j hj=>by show fe (setL (setL Sn.T 0 n (⟨1,(f:Int),false⟩:En)) 1 n (⟨1,(f:Int),false⟩:En)) 0 j=_∧(fe (setL (setL Sn.T 0 n (⟨1,(f:Int),false⟩:En)) 1 n (⟨1,(f:Int),false⟩:En)) 1 j).k=0;rw[si hB.ok hL hn64 k2 _ _ (by omega),si hB.ok hL hn64 k2 _ _ (by omega)];exact hN.out.2.2 j (by omega)⟩)
     generalize hSx:(Sn.frs (Sn.H.m.fs.set f (iy X)))=Sx at hx sx hF z hG ha hz hy;clear k6 sx0 bx9 fx9 q;obtain⟨gT2,oT2,_,d,kw,kT,_⟩:=hx.ent (p:=0) (n:=n) (by omega) hn64 ha;have kd:gx≠gT2:=fun e9=>z.out (.inr (by rw[e9];simp[gZ,d,oB];right;right;right;right;right;right;right;right;rfl));have hD:gf≠gT2:=fun e9=>hF.out (.inr (by rw[e9];simp[gZ,d,oB];right;right;right;right;right;right;right;right;rfl));go_upto_region 12 with (fail);refine nA 17 [_,_,_,.v (.slice (some ⟨gT2,oT2,none⟩) 2 Sx.cb),_,_,_,_,.v (.slice (some ⟨gT2,oT2,none⟩) 2 Sx.cb),_,.v (.agg (jw (⟨1,(f:Int),false⟩:En))),.v (.agg (jw (⟨1,(f:Int),false⟩:En))),_,.v (.pointer (some ⟨gT2,oT2+n*3,none⟩)),.r 14 ((bW fun _=>True)),_,.v (.pointer (some ⟨gT2,oT2+192+n*3,none⟩))] (LM S Sx { Sx with T:=setL Sx.T 0 n (⟨1,(f:Int),false⟩:En) } B b w gx gf (⟨1,(f:Int),false⟩:En) (fC (cz p0.ar))) aZ (fun _=>⟨⟨bx,fx1⟩,fun _=>⟨hx,sx⟩,fun h=>(by cases h)⟩) (Qk aZ rfl (Qk aZ rfl (Qf aZ b 12 rfl rfl (ag ?v1_1 (Qk aZ rfl (Qk aZ rfl (Qk aZ rfl (Qf aZ b 12 rfl rfl (ag ?v1_2 (Qk aZ rfl (ag ?v1_3 (ag ?v1_4 (Qr aZ (.pointer (some ⟨gT2,oT2,none⟩)) (fun ρ y W o=>(bF (i:=0) rfl (aF rfl o) (aF rfl o) (by decide) underlying75 ents_size)) rfl rfl (ag ?v1_5 (ag ?v1_6 (Qr aZ (.pointer (some ⟨gT2,oT2+192,none⟩)) (fun ρ y W o=>(bF (i:=1) rfl (aF rfl o) (aF rfl o) (by decide) underlying75 ents_size)) rfl rfl (ag ?v1_7 (aC)))))))))))))))))) (fun _=>rfl) rfl ?v1_8
    case u1_1|v1_1=>
     intro ρ y W L hw hn t c hb hd;refine eD aZ (fun _ _ h=>h) hb ?_;have g8:=hw 93 2 rfl;have h2:y 2=_:=hd 2 rfl;have kz:=Ck hb (by simp[iV,setL]);refine aj (.slice (some ⟨gT2,oT2,none⟩) 2 Sx.cb) (ah rfl) (by simp[execOp,go_sem,bX,g8,h2,kz,iV,d,hG]) rfl
    case u1_2|v1_2=>
     intro ρ y W L hw hn t c hb hd;refine eD aZ (fun _ _ h=>h) hb ?_;have g6:=hw 98 7 rfl;have h7:y 7=_:=hd 7 rfl;have kz:=Ck hb (by simp[iV,setL]);refine aj (.slice (some ⟨gT2,oT2,none⟩) 2 Sx.cb) (ah rfl) (by simp[execOp,go_sem,bX,g6,h7,kz,iV,d,hG]) rfl
    case u1_5|v1_5=>
     intro ρ y W L hw hn t c hb hd;refine eD aZ (fun _ _ h=>h) hb ?_;have k4:=hw 103 12 rfl;have hA:y 12=_:=hd 12 rfl;have g7:=hw 95 4 rfl;have h4:y 4=_:=hd 4 rfl;have kt:((64:Int)≤(n:Int))=False:=eq_false (by omega);refine aj (.pointer (some ⟨gT2,oT2+n*3,none⟩)) (ah rfl) (by simp[execOp,go_sem,bX,k4,hA,g7,h4,hn64,kt]) rfl
    case u1_7|v1_7=>
     intro ρ y W L hw hn t c hb hd;refine eD aZ (fun _ _ h=>h) hb ?_;have k3:=hw 105 15 rfl;have gq:y 15=_:=hd 15 rfl;have k5:=hw 100 9 rfl;have h9:y 9=_:=hd 9 rfl;have kt:((64:Int)≤(n:Int))=False:=eq_false (by omega);refine aj (.pointer (some ⟨gT2,oT2+192+n*3,none⟩)) (ah rfl) (by simp[execOp,go_sem,bX,k3,gq,k5,h9,hn64,kt]) rfl
    case u1_3=>
     intro ρ y W L hw hn t c hb hd;refine eD aZ (fun _ _ h=>h) hb ?_;have E4:ρ (.tmp 4) = .pointer (some ⟨gx,0,none⟩):=(hn (.tmp 4) rfl).trans rfl;refine aj (.agg (jw e)) (ah rfl) (dL rfl E4 hb.1.1 underlying89 rfl entry_size3) rfl
    case u1_4=>
     intro ρ y W L hw hn t c hb hd;refine eD aZ (fun _ _ h=>h) hb ?_;have E4:ρ (.tmp 4) = .pointer (some ⟨gx,0,none⟩):=(hn (.tmp 4) rfl).trans rfl;refine aj (.agg (jw e)) (ah rfl) (dL rfl E4 hb.1.1 underlying89 rfl entry_size3) rfl
    case u1_6=>
     intro ρ y W L hw hn t c hb hd;have kp:=hw 104 13 rfl;have kC:y 13=_:=hd 13 rfl;have kq:=hw 101 10 rfl;have hJ:y 10=_:=hd 10 rfl;obtain⟨kP,kL⟩:=hb.2.1 t;obtain⟨gQ,oQ,curQ,hQ,qv,kn,km,_,kl⟩:=kP.ent (p:=0) (n:=n) (by omega) hn64 ha;cases (hQ.symm.trans d);rw[xM,iq] at km kl;exact nC (ah rfl) (sD _ _ _ rfl gT2 (oT2+n*3) _ (kS e) (kp.trans kC) (kq.trans hJ) rfl curQ _ kn (by rw[fA];exact km) (by kernel_rfl) (bS (iO _))) ⟨⟨hb.1.1.grown (aG _ _ _ _) (fun e9=>kd (aJ e9).symm),hb.1.2.grown (aG _ _ _ _) (fun e9=>hD (aJ e9).symm)⟩,fun h=>(by cases h),fun _=>⟨kl _ e (kn.setCells _ _) (aG _ _ _ _),kL.put (aG _ _ _ _) (.inr (by simp only[gZ,d];simp[oB];right;right;right;right;right;right;right;right;rfl)) (fun x hx => .inl hx)⟩⟩ trivial
    case u1_8=>
     intro y W9 hZ kb;clear kb;simp only[bU,bX,bP,bT];obtain⟨⟨bx9,fx9⟩,_,hU⟩:=hZ;obtain⟨h9,s9⟩:=hU rfl;have g4:(setL Sx.T 0 n e).length=2:=by unfold setL;rw[bH];exact hG
     obtain⟨gR,oR',curR,hR,g5,ka,h6,_,hH⟩:=h9.ent (p:=1) (n:=n) (by show 1<(setL Sx.T 0 n e).length;omega) hn64 (by show (eU (setL Sx.T 0 n e) 1).length=64;rw[rQ (by omega),if_neg (by decide)];exact hz);have hR:Sx.ab=some ⟨gR,oR',none⟩:=hR;cases (hR.symm.trans d);rw[zN] at h6 hH;have h0:=Lib.hid hH;clear hH hU hx sx bx fx1
     go_wp2_with (refine aA rfl _ _ _ rfl gT2 (oT2+192+n*3) _ (kS e) rfl rfl rfl _ _ ka (by rw[fA];exact h6) (by kernel_rfl) (bS (iO _)) ?_)
     intro w10 ht q;have hJ:=h0.out w10 e ht q;have s10:MS w b S w10 { Sx with T:=setL (setL Sx.T 0 n e) 1 n e }:=s9.put q (.inr (by simp only[gZ,d];simp[oB];right;right;right;right;right;right;right;right;rfl)) (fun x hx => .inl hx);have fx10:=fx9.grown q (fun e9=>hD (aJ e9).symm);clear h9 s9 bx9 fx9 ka ht q;go_wp2;go_roundw
     case rel=>exact⟨n+1,_,by omega,by go_num,hJ,s10,fx10,hF,hy⟩
     case measure=>simp[intOf];omega
    case v1_3=>
     intro ρ y W L hw hn t c hb hd;refine eD aZ (fun _ _ h=>h) hb ?_;have E4:ρ (.tmp 4) = .pointer (some ⟨gx,0,none⟩):=(hn (.tmp 4) rfl).trans rfl;refine aj (.agg (jw (⟨1,(f:Int),false⟩:En))) (ah rfl) (dL rfl E4 hb.1.1 underlying89 rfl entry_size3) rfl
    case v1_4=>
     intro ρ y W L hw hn t c hb hd;refine eD aZ (fun _ _ h=>h) hb ?_;have E4:ρ (.tmp 4) = .pointer (some ⟨gx,0,none⟩):=(hn (.tmp 4) rfl).trans rfl;refine aj (.agg (jw (⟨1,(f:Int),false⟩:En))) (ah rfl) (dL rfl E4 hb.1.1 underlying89 rfl entry_size3) rfl
    case v1_6=>
     intro ρ y W L hw hn t c hb hd;have kp:=hw 104 13 rfl;have kC:y 13=_:=hd 13 rfl;have kq:=hw 101 10 rfl;have hJ:y 10=_:=hd 10 rfl;obtain⟨kP,kL⟩:=hb.2.1 t;obtain⟨gQ,oQ,curQ,hQ,qv,kn,km,_,kl⟩:=kP.ent (p:=0) (n:=n) (by omega) hn64 ha;cases (hQ.symm.trans d);rw[xM,iq] at km kl;exact nC (ah rfl) (sD _ _ _ rfl gT2 (oT2+n*3) _ (kS (⟨1,(f:Int),false⟩:En)) (kp.trans kC) (kq.trans hJ) rfl curQ _ kn (by rw[fA];exact km) (by kernel_rfl) (bS (iO _))) ⟨⟨hb.1.1.grown (aG _ _ _ _) (fun e9=>kd (aJ e9).symm),hb.1.2.grown (aG _ _ _ _) (fun e9=>hD (aJ e9).symm)⟩,fun h=>(by cases h),fun _=>⟨kl _ (⟨1,(f:Int),false⟩:En) (kn.setCells _ _) (aG _ _ _ _),kL.put (aG _ _ _ _) (.inr (by simp only[gZ,d];simp[oB];right;right;right;right;right;right;right;right;rfl)) (fun x hx => .inl hx)⟩⟩ trivial
    case v1_8=>
     intro y W9 hZ kb;clear kb;simp only[bU,bX,bP,bT];obtain⟨⟨bx9,fx9⟩,_,hU⟩:=hZ;obtain⟨h9,s9⟩:=hU rfl;have g4:(setL Sx.T 0 n (⟨1,(f:Int),false⟩:En)).length=2:=by unfold setL;rw[bH];exact hG
     obtain⟨gR,oR',curR,hR,g5,ka,h6,_,hH⟩:=h9.ent (p:=1) (n:=n) (by show 1<(setL Sx.T 0 n (⟨1,(f:Int),false⟩:En)).length;omega) hn64 (by show (eU (setL Sx.T 0 n (⟨1,(f:Int),false⟩:En)) 1).length=64;rw[rQ (by omega),if_neg (by decide)];exact hz);have hR:Sx.ab=some ⟨gR,oR',none⟩:=hR;cases (hR.symm.trans d);rw[zN] at h6 hH;have h0:=Lib.hid hH;clear hH hU hx sx bx fx1
     go_wp2_with (refine aA rfl _ _ _ rfl gT2 (oT2+192+n*3) _ (kS (⟨1,(f:Int),false⟩:En)) rfl rfl rfl _ _ ka (by rw[fA];exact h6) (by kernel_rfl) (bS (iO _)) ?_)
     intro w10 ht q;have hJ:=h0.out w10 (⟨1,(f:Int),false⟩:En) ht q;have s10:MS w b S w10 { Sx with T:=setL (setL Sx.T 0 n (⟨1,(f:Int),false⟩:En)) 1 n (⟨1,(f:Int),false⟩:En) }:=s9.put q (.inr (by simp only[gZ,d];simp[oB];right;right;right;right;right;right;right;right;rfl)) (fun x hx => .inl hx);have fx10:=fx9.grown q (fun e9=>hD (aJ e9).symm);clear h9 s9 bx9 fx9 ka ht q;go_wp2;go_roundw
     case rel=>exact⟨n+1,_,by omega,by go_num,hJ,s10,fx10,hF,hy⟩
     case measure=>simp[intOf];omega
   by_cases hk2:e.k=2
   case' pos=>
    have hK:=hN.out.1;have hB:=hN.out.2.1;have hL:Sn.H.ma.sp.length=2:=by rw[←hB.ok.len];exact hO
    have hh:fe Sn.T 0 n=e:=by rw[(hN.out.2.2 n (ay _)).1];exact gO.out
    have hE:=yN hB.ok (p:=0) (n:=n) (by omega) hn64;rw[hh] at hE;have kh:=lG hB.ok (p:=0) (n:=n) (by omega) hn64;rw[hh] at kh;obtain⟨g,hI,hY⟩:=hB.rt.en 0 n (by rw[kh,hk2];decide);rw[kh] at hY;have kO:0≤e.n:=by rcases (dx _).1 hE with h9 | h9 | h9<;>omega
    obtain⟨s0,qb⟩:=fE kO;have kK:s0<Sn.H.sl.length:=by have h9:=(hY.sw hk2).1;have e1:((dU Sn.H.ma Sn.T).sl.length:Nat)=Sn.H.sl.length:=rfl;omega
    obtain⟨gs,off,cap,cur,hv,gi,hP,gh,kg,kj⟩:=Own.put (enc:=fun x=>[fT x]) (sz:=1) (l:=Sn.H.sl) (fun _=>rfl) Nat.one_pos (by rw[iZ];exact hq.ma.sl) s0 kK;have gY:Sn.H.asl=some ⟨gs,off,none⟩:=(ng hv).1;rw[sH] at gh kg kj;have gH:oZ Sn.H.ma s0=Sn.H.sl[s0]:=by unfold oZ;show Sn.H.sl.getD s0 0=_;rw[aS,aH kK];rfl
    have gA:=hB.rt.fewS (s:=s0) kK;have ql:0≤Sn.H.sl[s0]∧Sn.H.sl[s0]≤256:=by rw[←gH];exact gA
    have kV:=Lib.hid kj;have gr:=Lib.hid gH;have kA:∀W,Below W1.heap.size W1 W→W.cell? ⟨gs,off+s0,none⟩=some (.int .i64 Sn.H.sl[s0]):=fun W hb=>by have h9:=kg 0 _ rfl;rw[iq] at h9;have h8:=(hP.ext hb).cell (off+s0);rw[h8,←hP.cell];exact h9
    have qd:=Lib.hid (And.intro hI hL);clear gH kj kg gA hv hI hY hE kh hK hB hL kO;generalize Sn.H.sl[s0]=v0 at kA ql gr;have gJ:IntKind.i64.wrap (v0+1)=v0+1:=bM _ (by omega);have kE:=Lib.hid hh;clear hh;go_upto_region 11 with (fail);refine aM 11 [_,_,_,_,_,_,_,_,_,_,_] (Gk rfl (Gk rfl (Gf b 1 rfl rfl (Gf b 3 rfl rfl (Gl hq.blk (V:=.slice (some ⟨gs,off,none⟩) Sn.H.sl.length Sn.H.csl) (by simp[iV,gY]) rfl rfl rfl rfl (Gf gx 1 rfl rfl (Gl bx1 (V:=.int .i64 (s0:Int)) (by simp[jw,qb]) rfl rfl rfl rfl (Gr (.pointer (some ⟨gs,off+s0,none⟩)) (fun ρ y W hb o=>(Kc rfl (aF rfl o) (aF rfl o) kK)) rfl rfl (Gc (.int .i64 v0) (fun W hb=>by simp[kA _ hb]) rfl rfl rfl rfl (Gb (.int .i64 (v0+1)) (by simp[go_sem,gJ]) rfl rfl rfl rfl rfl (Gr (.pointer (some ⟨gs,off+s0,none⟩)) (fun ρ y W hb o=>(Kc rfl (aF rfl o) (aF rfl o) kK)) rfl rfl (aC)))))))))))) (fun _=>rfl) rfl ?_;intro y W8 hi _;have hr:=hP.ext hi;have kR:=hq.below hi;have sm8:=sm1.below hi;have bx8:=bx1.ext hi;have fx8:=fx1.ext hi;clear hq sm1 bx1 fx1 hP ky kA hi
    go_wp2_with (refine aA rfl _ _ _ rfl gs (off+s0) _ [.int .i64 (v0+1)] rfl rfl rfl _ _ hr (by show off+s0+1≤cur.size;omega) (by kernel_rfl) (fun u hu=>by cases bv.1 hu;rfl) ?_)
    intro w9 kG hV;have gM:oB Sn.H.asl=some gs:=by rw[gY];rfl
    have hx:ed w9 B b { Sn with H:={ Sn.H with sl:=Sn.H.sl.set s0 (v0+1) } }:=kR.putS hr gi gM hV (sl:=Sn.H.sl.set s0 (v0+1)) (by simp) (by have h9:=kV.out w9 (v0+1) kG;rw[iZ] at h9;simpa using h9);have sx:MS w b S w9 { Sn with H:={ Sn.H with sl:=Sn.H.sl.set s0 (v0+1) } }:=sm8.put hV (.inr (by simp[gZ,gM])) (fun x hx => .inl hx);have bx:=bq bx8 hr (by decide) hV;have fx1:=bq fx8 hr (by decide) hV;have hF:Hid (¬mP b ({ Sn with H:={ Sn.H with sl:=Sn.H.sl.set s0 (v0+1) } }:MW) gf):=ge;have z:Hid (¬mP b ({ Sn with H:={ Sn.H with sl:=Sn.H.sl.set s0 (v0+1) } }:MW) gx):=z;have hG:({ Sn with H:={ Sn.H with sl:=Sn.H.sl.set s0 (v0+1) } }:MW).T.length=2:=hO;have ha:(eU ({ Sn with H:={ Sn.H with sl:=Sn.H.sl.set s0 (v0+1) } }:MW).T 0).length=64:=ko.out 0 (by decide);have hz:(eU ({ Sn with H:={ Sn.H with sl:=Sn.H.sl.set s0 (v0+1) } }:MW).T 1).length=64:=ko.out 1 (by decide);have hy:Hid (Jj S5 { ({ Sn with H:={ Sn.H with sl:=Sn.H.sl.set s0 (v0+1) } }:MW) with T:=setL (setL ({ Sn with H:={ Sn.H with sl:=Sn.H.sl.set s0 (v0+1) } }:MW).T 0 n e) 1 n e }∧Bd ({ Sn with H:={ Sn.H with sl:=Sn.H.sl.set s0 (v0+1) } }:MW).H.ma (setL (setL ({ Sn with H:={ Sn.H with sl:=Sn.H.sl.set s0 (v0+1) } }:MW).T 0 n e) 1 n e)∧∀j:Nat,n+1≤j→fe (setL (setL ({ Sn with H:={ Sn.H with sl:=Sn.H.sl.set s0 (v0+1) } }:MW).T 0 n e) 1 n e) 0 j=t0.getD j zEn∧(fe (setL (setL ({ Sn with H:={ Sn.H with sl:=Sn.H.sl.set s0 (v0+1) } }:MW).T 0 n e) 1 n e) 1 j).k=0):=Lib.hid (by
     have hK:=hN.out.1;have hB:=hN.out.2.1;have hL:=qd.out.2;have hE:=yN hB.ok (p:=0) (n:=n) (by omega) hn64;rw[kE.out] at hE;have hI:=qd.out.1;rw[nU (by omega)] at hI;have ki:(fF Sn.H.ma 1).ar=(fF Sn.H.ma 0).ar:=by show ((Sn.H.sp.map PS.sp).getD 1 zSp).ar=((Sn.H.sp.map PS.sp).getD 0 zSp).ar;rw[hK.sp,gG.out,kc.out];rfl
     have hA:=hB.share2 hL hn64 ki (by rw[kE.out];exact hk2) (hN.out.2.2 n (ay _)).2 hI (by rw[kE.out];exact qb);rw[kE.out,gr.out] at hA;exact⟨⟨hK.sp,hK.fi,hK.ct,hK.dk,hK.fl,by show (Sn.H.sl.set s0 (v0+1)).length=_;rw[bH];exact hK.sl⟩,hA,fun j hj=>by show fe (setL (setL Sn.T 0 n e) 1 n e) 0 j=_∧(fe (setL (setL Sn.T 0 n e) 1 n e) 1 j).k=0;rw[si hB.ok hL hn64 hE _ _ (by omega),si hB.ok hL hn64 hE _ _ (by omega)];exact hN.out.2.2 j (by omega)⟩)
    clear kR sm8 bx8 fx8 hr kG hV gY gM;generalize hSx:({ Sn with H:={ Sn.H with sl:=Sn.H.sl.set s0 (v0+1) } }:MW)=Sx at hx sx hF z hG ha hz hy;obtain⟨gT2,oT2,_,d,kw,kT,_⟩:=hx.ent (p:=0) (n:=n) (by omega) hn64 ha;have kd:gx≠gT2:=fun e9=>z.out (.inr (by rw[e9];simp[gZ,d,oB];right;right;right;right;right;right;right;right;rfl));have hD:gf≠gT2:=fun e9=>hF.out (.inr (by rw[e9];simp[gZ,d,oB];right;right;right;right;right;right;right;right;rfl));go_upto_region 12 with (fail);refine nA 17 [_,_,_,.v (.slice (some ⟨gT2,oT2,none⟩) 2 Sx.cb),_,_,_,_,.v (.slice (some ⟨gT2,oT2,none⟩) 2 Sx.cb),_,.v (.agg (jw e)),.v (.agg (jw e)),_,.v (.pointer (some ⟨gT2,oT2+n*3,none⟩)),.r 14 ((bW fun _=>True)),_,.v (.pointer (some ⟨gT2,oT2+192+n*3,none⟩))] (LM S Sx { Sx with T:=setL Sx.T 0 n e } B b w gx gf e (fC (cz p0.ar))) aZ (fun _=>⟨⟨bx,fx1⟩,fun _=>⟨hx,sx⟩,fun h=>(by cases h)⟩) (Qk aZ rfl (Qk aZ rfl (Qf aZ b 12 rfl rfl (ag ?u2_1 (Qk aZ rfl (Qk aZ rfl (Qk aZ rfl (Qf aZ b 12 rfl rfl (ag ?u2_2 (Qk aZ rfl (ag ?u2_3 (ag ?u2_4 (Qr aZ (.pointer (some ⟨gT2,oT2,none⟩)) (fun ρ y W o=>(bF (i:=0) rfl (aF rfl o) (aF rfl o) (by decide) underlying75 ents_size)) rfl rfl (ag ?u2_5 (ag ?u2_6 (Qr aZ (.pointer (some ⟨gT2,oT2+192,none⟩)) (fun ρ y W o=>(bF (i:=1) rfl (aF rfl o) (aF rfl o) (by decide) underlying75 ents_size)) rfl rfl (ag ?u2_7 (aC)))))))))))))))))) (fun _=>rfl) rfl ?u2_8
   case' neg=>
    have hx:=hq;have sx:=sm1;have bx:=bx1;have hF:=ge;have hG:=hO;have ha:=ko.out 0 (by decide);have hz:=ko.out 1 (by decide);have hy:Hid (Jj S5 { Sn with T:=setL (setL Sn.T 0 n e) 1 n e }∧Bd Sn.H.ma (setL (setL Sn.T 0 n e) 1 n e)∧∀j:Nat,n+1≤j→fe (setL (setL Sn.T 0 n e) 1 n e) 0 j=t0.getD j zEn∧(fe (setL (setL Sn.T 0 n e) 1 n e) 1 j).k=0):=Lib.hid (by
     have hK:=hN.out.1;have hB:=hN.out.2.1;have hL:Sn.H.ma.sp.length=2:=by rw[←hB.ok.len];exact hO
     have hh:fe Sn.T 0 n=e:=by rw[(hN.out.2.2 n (ay _)).1];exact gO.out
     have hE:=yN hB.ok (p:=0) (n:=n) (by omega) hn64;rw[hh] at hE;have gg:e.k=0:=by
      rcases (dx _).1 hE with h9|h9|h9
      ·exact h9.1
      ·exact absurd h9.1 hk1
      ·exact absurd h9.1 hk2
     have hA:=hB.share0 hL hn64 (by rw[hh];exact gg) (hN.out.2.2 n (ay _)).2;rw[hh] at hA;exact⟨⟨hK.sp,hK.fi,hK.ct,hK.dk,hK.fl,hK.sl⟩,hA,fun j hj=>by rw[si hB.ok hL hn64 hE _ _ (by omega),si hB.ok hL hn64 hE _ _ (by omega)];exact hN.out.2.2 j (by omega)⟩)
    generalize hSx:Sn=Sx at hx sx hF z hG ha hz hy;obtain⟨gT2,oT2,_,d,kw,kT,_⟩:=hx.ent (p:=0) (n:=n) (by omega) hn64 ha;have kd:gx≠gT2:=fun e9=>z.out (.inr (by rw[e9];simp[gZ,d,oB];right;right;right;right;right;right;right;right;rfl));have hD:gf≠gT2:=fun e9=>hF.out (.inr (by rw[e9];simp[gZ,d,oB];right;right;right;right;right;right;right;right;rfl));go_upto_region 12 with (fail);refine nA 17 [_,_,_,.v (.slice (some ⟨gT2,oT2,none⟩) 2 Sx.cb),_,_,_,_,.v (.slice (some ⟨gT2,oT2,none⟩) 2 Sx.cb),_,.v (.agg (jw e)),.v (.agg (jw e)),_,.v (.pointer (some ⟨gT2,oT2+n*3,none⟩)),.r 14 ((bW fun _=>True)),_,.v (.pointer (some ⟨gT2,oT2+192+n*3,none⟩))] (LM S Sx { Sx with T:=setL Sx.T 0 n e } B b w gx gf e (fC (cz p0.ar))) aZ (fun _=>⟨⟨bx,fx1⟩,fun _=>⟨hx,sx⟩,fun h=>(by cases h)⟩) (Qk aZ rfl (Qk aZ rfl (Qf aZ b 12 rfl rfl (ag ?v2_1 (Qk aZ rfl (Qk aZ rfl (Qk aZ rfl (Qf aZ b 12 rfl rfl (ag ?v2_2 (Qk aZ rfl (ag ?v2_3 (ag ?v2_4 (Qr aZ (.pointer (some ⟨gT2,oT2,none⟩)) (fun ρ y W o=>(bF (i:=0) rfl (aF rfl o) (aF rfl o) (by decide) underlying75 ents_size)) rfl rfl (ag ?v2_5 (ag ?v2_6 (Qr aZ (.pointer (some ⟨gT2,oT2+192,none⟩)) (fun ρ y W o=>(bF (i:=1) rfl (aF rfl o) (aF rfl o) (by decide) underlying75 ents_size)) rfl rfl (ag ?v2_7 (aC)))))))))))))))))) (fun _=>rfl) rfl ?v2_8
   case u2_1|v2_1=>
    intro ρ y W L hw hn t c hb hd;refine eD aZ (fun _ _ h=>h) hb ?_;have g8:=hw 93 2 rfl;have h2:y 2=_:=hd 2 rfl;have kz:=Ck hb (by simp[iV,setL]);refine aj (.slice (some ⟨gT2,oT2,none⟩) 2 Sx.cb) (ah rfl) (by simp[execOp,go_sem,bX,g8,h2,kz,iV,d,hG]) rfl
   case u2_2|v2_2=>
    intro ρ y W L hw hn t c hb hd;refine eD aZ (fun _ _ h=>h) hb ?_;have g6:=hw 98 7 rfl;have h7:y 7=_:=hd 7 rfl;have kz:=Ck hb (by simp[iV,setL]);refine aj (.slice (some ⟨gT2,oT2,none⟩) 2 Sx.cb) (ah rfl) (by simp[execOp,go_sem,bX,g6,h7,kz,iV,d,hG]) rfl
   case u2_3|v2_3=>
    intro ρ y W L hw hn t c hb hd;refine eD aZ (fun _ _ h=>h) hb ?_;have E4:ρ (.tmp 4) = .pointer (some ⟨gx,0,none⟩):=(hn (.tmp 4) rfl).trans rfl;refine aj (.agg (jw e)) (ah rfl) (dL rfl E4 hb.1.1 underlying89 rfl entry_size3) rfl
   case u2_4|v2_4=>
    intro ρ y W L hw hn t c hb hd;refine eD aZ (fun _ _ h=>h) hb ?_;have E4:ρ (.tmp 4) = .pointer (some ⟨gx,0,none⟩):=(hn (.tmp 4) rfl).trans rfl;refine aj (.agg (jw e)) (ah rfl) (dL rfl E4 hb.1.1 underlying89 rfl entry_size3) rfl
   case u2_5|v2_5=>
    intro ρ y W L hw hn t c hb hd;refine eD aZ (fun _ _ h=>h) hb ?_;have k4:=hw 103 12 rfl;have hA:y 12=_:=hd 12 rfl;have g7:=hw 95 4 rfl;have h4:y 4=_:=hd 4 rfl;have kt:((64:Int)≤(n:Int))=False:=eq_false (by omega);refine aj (.pointer (some ⟨gT2,oT2+n*3,none⟩)) (ah rfl) (by simp[execOp,go_sem,bX,k4,hA,g7,h4,hn64,kt]) rfl
   case u2_6|v2_6=>
    intro ρ y W L hw hn t c hb hd;have kp:=hw 104 13 rfl;have kC:y 13=_:=hd 13 rfl;have kq:=hw 101 10 rfl;have hJ:y 10=_:=hd 10 rfl;obtain⟨kP,kL⟩:=hb.2.1 t;obtain⟨gQ,oQ,curQ,hQ,qv,kn,km,_,kl⟩:=kP.ent (p:=0) (n:=n) (by omega) hn64 ha;cases (hQ.symm.trans d);rw[xM,iq] at km kl;exact nC (ah rfl) (sD _ _ _ rfl gT2 (oT2+n*3) _ (kS e) (kp.trans kC) (kq.trans hJ) rfl curQ _ kn (by rw[fA];exact km) (by kernel_rfl) (bS (iO _))) ⟨⟨hb.1.1.grown (aG _ _ _ _) (fun e9=>kd (aJ e9).symm),hb.1.2.grown (aG _ _ _ _) (fun e9=>hD (aJ e9).symm)⟩,fun h=>(by cases h),fun _=>⟨kl _ e (kn.setCells _ _) (aG _ _ _ _),kL.put (aG _ _ _ _) (.inr (by simp only[gZ,d];simp[oB];right;right;right;right;right;right;right;right;rfl)) (fun x hx => .inl hx)⟩⟩ trivial
   case u2_7|v2_7=>
    intro ρ y W L hw hn t c hb hd;refine eD aZ (fun _ _ h=>h) hb ?_;have k3:=hw 105 15 rfl;have gq:y 15=_:=hd 15 rfl;have k5:=hw 100 9 rfl;have h9:y 9=_:=hd 9 rfl;have kt:((64:Int)≤(n:Int))=False:=eq_false (by omega);refine aj (.pointer (some ⟨gT2,oT2+192+n*3,none⟩)) (ah rfl) (by simp[execOp,go_sem,bX,k3,gq,k5,h9,hn64,kt]) rfl
   case u2_8=>
    intro y W9 hZ kb;clear kb;simp only[bU,bX,bP,bT];obtain⟨⟨bx9,fx9⟩,_,hU⟩:=hZ;obtain⟨h9,s9⟩:=hU rfl;have g4:(setL Sx.T 0 n e).length=2:=by unfold setL;rw[bH];exact hG
    obtain⟨gR,oR',curR,hR,g5,ka,h6,_,hH⟩:=h9.ent (p:=1) (n:=n) (by show 1<(setL Sx.T 0 n e).length;omega) hn64 (by show (eU (setL Sx.T 0 n e) 1).length=64;rw[rQ (by omega),if_neg (by decide)];exact hz);have hR:Sx.ab=some ⟨gR,oR',none⟩:=hR;cases (hR.symm.trans d);rw[zN] at h6 hH;have h0:=Lib.hid hH;clear hH hU hx sx bx fx1
    go_wp2_with (refine aA rfl _ _ _ rfl gT2 (oT2+192+n*3) _ (kS e) rfl rfl rfl _ _ ka (by rw[fA];exact h6) (by kernel_rfl) (bS (iO _)) ?_)
    intro w10 ht q;have hJ:=h0.out w10 e ht q;have s10:MS w b S w10 { Sx with T:=setL (setL Sx.T 0 n e) 1 n e }:=s9.put q (.inr (by simp only[gZ,d];simp[oB];right;right;right;right;right;right;right;right;rfl)) (fun x hx => .inl hx);have fx10:=fx9.grown q (fun e9=>hD (aJ e9).symm);clear h9 s9 bx9 fx9 ka ht q;go_wp2;go_roundw
    case rel=>exact⟨n+1,_,by omega,by go_num,hJ,s10,fx10,hF,hy⟩
    case measure=>simp[intOf];omega
   case v2_8=>
    intro y W9 hZ kb;clear kb;simp only[bU,bX,bP,bT];obtain⟨⟨bx9,fx9⟩,_,hU⟩:=hZ;obtain⟨h9,s9⟩:=hU rfl;have g4:(setL Sx.T 0 n e).length=2:=by unfold setL;rw[bH];exact hG
    obtain⟨gR,oR',curR,hR,g5,ka,h6,_,hH⟩:=h9.ent (p:=1) (n:=n) (by show 1<(setL Sx.T 0 n e).length;omega) hn64 (by show (eU (setL Sx.T 0 n e) 1).length=64;rw[rQ (by omega),if_neg (by decide)];exact hz);have hR:Sx.ab=some ⟨gR,oR',none⟩:=hR;cases (hR.symm.trans d);rw[zN] at h6 hH;have h0:=Lib.hid hH;clear hH hU hx sx bx fx1
    go_wp2_with (refine aA rfl _ _ _ rfl gT2 (oT2+192+n*3) _ (kS e) rfl rfl rfl _ _ ka (by rw[fA];exact h6) (by kernel_rfl) (bS (iO _)) ?_)
    intro w10 ht q;have hJ:=h0.out w10 e ht q;have s10:MS w b S w10 { Sx with T:=setL (setL Sx.T 0 n e) 1 n e }:=s9.put q (.inr (by simp only[gZ,d];simp[oB];right;right;right;right;right;right;right;right;rfl)) (fun x hx => .inl hx);have fx10:=fx9.grown q (fun e9=>hD (aJ e9).symm);clear h9 s9 bx9 fx9 ka ht q;go_wp2;go_roundw
    case rel=>exact⟨n+1,_,by omega,by go_num,hJ,s10,fx10,hF,hy⟩
    case measure=>simp[intOf];omega
  have qB:¬(n:Int)<64:=by omega
  go_wp2;refine bodyPost_ret (v:=.tuple #[]) (by simp[results,go_sem,results34]) rfl ?_;have hK:=hN.out.1;have hM:=ku.out;refine⟨Sn,rfl,hm,hs,⟨hN.out.2.1,fun p hp n g hg => ?_,hK.fi.trans hM.fi,hK.ct.trans hM.ct,hK.dk.trans hM.dk,by rw[hK.sp];exact hM.sp,hK.fl.trans hM.fs⟩⟩;rw[hK.sp] at hp;rw[hK.fi];exact hM.fm p hp n g hg
theorem Hg (t e:TypeId) (z:Value) (size bytes:Nat) (ht:P.underlying t=some (.slice e)) (h2:(P.info? e).map (fun i=>(i.zero,i.size,i.bytes))=some (some z,size,bytes)) (kl kc:IntKind) (n:Nat) (b2:bytes*n≤281474976710656) (b3:n≤9223372036854775807) (w:World) :
  (Instr.makeSlice t (.int kl (n:Int)) (.int kc (n:Int))).run P w = .ok (.slice (some ⟨w.heap.size,0,none⟩) n n) (w.alloc (.cells (madeCells z.cells (n*size)) e)):=by
 obtain⟨i,hi,a,hs,hb⟩:=info_parts h2;have b : (i.bytes:Int)*(n:Int)≤281474976710656:=by
  have h:((i.bytes*n:Nat):Int)≤281474976710656:=by rw[hb];omega
  rwa [Int.natCast_mul] at h
 have hr:=run_make (P:=P) w t e i z ht hi a kl kc n n (by omega) (rZ _) b (by omega);simp only[bR,hs] at hr;exact hr
theorem CL {α:Type} (enc:α→List Value) (x:α) (hsz:∀x,(enc x).length=sz) (hp:0<sz) (hz:z.toList=enc x) (hn:n≤maxLen) (hB:B≤g) (hk:aB w g (madeCells z (n*sz)) e) :
  Own w B e sz (.slice (some ⟨g,0,none⟩) n n) n ((List.replicate n x).flatMap enc):=
 ⟨by rw[Pw.flat_len enc sz hsz,jD],.inr ⟨g,0,n,_,rfl,hB,hk,ay _,hn,by simp[size_madeCells],fun j u hj=>by rw[eu,←tJ,Gs enc sz hsz hp z x hz n];exact hj⟩⟩
theorem Uj (h:aB w g (madeCells z (n*8)) e) (h' : aB w g' (madeCells z (n' * 8)) e') (hne:Value.slice (some ⟨g,0,none⟩) n n ≠ .slice (some ⟨g',0,none⟩) n' n'):g≠g':=by
 intro e0;subst e0;have h2:some (Obj.cells (madeCells z (n*8)) e (0,0))=some (Obj.cells (madeCells z (n' * 8)) e' (0,0)):=h.symm.trans h';have h3:madeCells z (n*8)=madeCells z (n' * 8):=by injection h2 with h2;injection h2
 have h4:=congrArg Array.size h3;rw[size_madeCells,size_madeCells] at h4;obtain rfl:n=n':=by omega
 exact hne rfl
structure JM (W0:World) (B f s ct:Nat) (zf zs zp:Array Value) (L:Nat→Bool) (y:Nat→Value) (W:World):Prop where
 be:Below W0.heap.size W0 W
 k2:L 2=true→∃g,y 2 = .slice (some ⟨g,0,none⟩) f f∧B≤g∧aB W g (madeCells zf (f*13)) 81
 k5:L 5=true→∃g,y 5 = .slice (some ⟨g,0,none⟩) s s∧B≤g∧aB W g (madeCells zs (s*1)) 3
 k7:L 7=true→∃g,y 7 = .slice (some ⟨g,0,none⟩) s s∧B≤g∧aB W g (madeCells zp (s*8)) 79
 k10:L 10=true→∃g,y 10 = .slice (some ⟨g,0,none⟩) ct ct∧B≤g∧aB W g (madeCells zp (ct*8)) 79
 ne:L 7=true→L 10=true→y 7≠y 10
 k3:L 3=true→L 2=true∧y 3 = .agg #[y 2,.int .i64 0]
 k8:L 8=true→L 7=true∧y 8 = .agg #[y 7,.slice none 0 0]
 k11:L 11=true→L 10=true∧y 11 = .agg #[y 10,.slice none 0 0]
 k14:L 14=true→(L 3=true∧L 5=true∧L 8=true∧L 11=true)∧y 14 = .agg #[y 2,.int .i64 0,y 5,y 7,.slice none 0 0,y 10,.slice none 0 0,.slice none 0 0,.int .i64 ct,.slice none 0 0,.slice none 0 0]
theorem sJ :∀L y W W',Below W.heap.size W W'→JM W0 B f s ct zf zs zp L y W→JM W0 B f s ct zf zs zp L y W':=fun _ _ _ _ hb h=>
 ⟨ae h.be hb,fun e=>by obtain⟨g,a,b,c⟩:=h.k2 e;exact⟨g,a,b,c.ext hb⟩,fun e=>by obtain⟨g,a,b,c⟩:=h.k5 e;exact⟨g,a,b,c.ext hb⟩,fun e=>by obtain⟨g,a,b,c⟩:=h.k7 e;exact⟨g,a,b,c.ext hb⟩,fun e=>by obtain⟨g,a,b,c⟩:=h.k10 e;exact⟨g,a,b,c.ext hb⟩,h.ne,h.k3,h.k8,h.k11,h.k14⟩
theorem WU (y:Nat→Value):JM W0 B f s ct zf zs zp (fun _=>false) y W0:=
 ⟨Below.refl _ _,fun e=>(by cases e),fun e=>(by cases e),fun e=>(by cases e),fun e=>(by cases e),fun e=>(by cases e),fun e=>(by cases e),fun e=>(by cases e),fun e=>(by cases e),fun e=>(by cases e)⟩
theorem zb (hi:i≠2∧i≠5∧i≠7∧i≠10∧i≠3∧i≠8∧i≠11∧i≠14) (h:JM W0 B f s ct zf zs zp L y W):JM W0 B f s ct zf zs zp (cO L i) (dG y i v) W:=by
 have e:∀k,k≠i→cO L i k=L k∧dG y i v k=y k:=fun k hk=>⟨by unfold cO;rw[if_neg hk],by unfold dG;rw[if_neg hk]⟩;have e2:=e 2 (by omega);have e5:=e 5 (by omega);have e7:=e 7 (by omega);have e10:=e 10 (by omega);have e3:=e 3 (by omega);have e8:=e 8 (by omega);have e11:=e 11 (by omega);have e14:=e 14 (by omega);refine⟨h.be,?_,?_,?_,?_,?_,?_,?_,?_,?_⟩
 ·rw[e2.1,e2.2];exact h.k2
 ·rw[e5.1,e5.2];exact h.k5
 ·rw[e7.1,e7.2];exact h.k7
 ·rw[e10.1,e10.2];exact h.k10
 ·rw[e7.1,e7.2,e10.1,e10.2];exact h.ne
 ·rw[e3.1,e3.2,e2.1,e2.2];exact h.k3
 ·rw[e8.1,e8.2,e7.1,e7.2];exact h.k8
 ·rw[e11.1,e11.2,e10.1,e10.2];exact h.k11
 ·rw[e14.1,e14.2,e3.1,e5.1,e8.1,e11.1,e2.2,e5.2,e7.2,e10.2];exact h.k14
theorem nT {p:Prop} (h:L i=false) (h' : L i=true):p:=by rw[h] at h'; cases h'
theorem WQ (hi:L 2=false) (hB:B≤W0.heap.size) (h0:JM W0 B f s ct zf zs zp L y W):JM W0 B f s ct zf zs zp (cO L 2) (dG y 2 (.slice (some ⟨W.heap.size,0,none⟩) f f)) (W.alloc (.cells (madeCells zf (f*13)) 81)):=by
 have h:=sJ _ _ _ _ ((Below.refl W.heap.size W).alloc (ay _) (.cells (madeCells zf (f*13)) 81)) h0;exact⟨h.be,fun _=>⟨_,rfl,bi hB h0.be.size,aB.new _ _ _⟩,h.k5,h.k7,h.k10,h.ne,fun e=>nT hi (h.k3 e).1,h.k8,h.k11,fun e=>nT hi (h.k3 (h.k14 e).1.1).1⟩
theorem WV (hi:L 5=false) (hB:B≤W0.heap.size) (h0:JM W0 B f s ct zf zs zp L y W):JM W0 B f s ct zf zs zp (cO L 5) (dG y 5 (.slice (some ⟨W.heap.size,0,none⟩) s s)) (W.alloc (.cells (madeCells zs (s*1)) 3)):=by
 have h:=sJ _ _ _ _ ((Below.refl W.heap.size W).alloc (ay _) (.cells (madeCells zs (s*1)) 3)) h0;exact⟨h.be,h.k2,fun _=>⟨_,rfl,bi hB h0.be.size,aB.new _ _ _⟩,h.k7,h.k10,h.ne,h.k3,h.k8,h.k11,fun e=>nT hi (h.k14 e).1.2.1⟩
theorem WM (hi:L 7=false) (hB:B≤W0.heap.size) (h0:JM W0 B f s ct zf zs zp L y W):JM W0 B f s ct zf zs zp (cO L 7) (dG y 7 (.slice (some ⟨W.heap.size,0,none⟩) s s)) (W.alloc (.cells (madeCells zp (s*8)) 79)):=by
 have h:=sJ _ _ _ _ ((Below.refl W.heap.size W).alloc (ay _) (.cells (madeCells zp (s*8)) 79)) h0;refine⟨h.be,h.k2,h.k5,fun _=>⟨_,rfl,bi hB h0.be.size,aB.new _ _ _⟩,h.k10,fun _ e => ?_,h.k3,fun e=>nT hi (h.k8 e).1,h.k11,fun e=>nT hi (h.k8 (h.k14 e).1.2.2.1).1⟩;obtain⟨g,e1,_,e2⟩:=h0.k10 e;show Value.slice _ s s≠y 10;rw[e1];intro e3;simp only[lU,iY,vM] at e3;have:=e2.lt;omega
theorem Ww (hi:L 10=false) (hB:B≤W0.heap.size) (h0:JM W0 B f s ct zf zs zp L y W):JM W0 B f s ct zf zs zp (cO L 10) (dG y 10 (.slice (some ⟨W.heap.size,0,none⟩) ct ct)) (W.alloc (.cells (madeCells zp (ct*8)) 79)):=by
 have h:=sJ _ _ _ _ ((Below.refl W.heap.size W).alloc (ay _) (.cells (madeCells zp (ct*8)) 79)) h0;refine⟨h.be,h.k2,h.k5,h.k7,fun _=>⟨_,rfl,bi hB h0.be.size,aB.new _ _ _⟩,fun e _ => ?_,h.k3,h.k8,fun e=>nT hi (h.k11 e).1,fun e=>nT hi (h.k11 (h.k14 e).1.2.2.2).1⟩;obtain⟨g,e1,_,e2⟩:=h0.k7 e;show y 7≠Value.slice _ ct ct;rw[e1];intro e3;simp only[lU,iY,vM] at e3;have:=e2.lt;omega
theorem WX (hi:L 3=false) (hd:L 2=true) (h:JM W0 B f s ct zf zs zp L y W):JM W0 B f s ct zf zs zp (cO L 3) (dG y 3 (.agg #[y 2,.int .i64 0])) W:=
 ⟨h.be,h.k2,h.k5,h.k7,h.k10,h.ne,fun _=>⟨hd,rfl⟩,h.k8,h.k11,fun e=>nT hi (h.k14 e).1.1⟩
theorem WR (hi:L 8=false) (hd:L 7=true) (h:JM W0 B f s ct zf zs zp L y W):JM W0 B f s ct zf zs zp (cO L 8) (dG y 8 (.agg #[y 7,.slice none 0 0])) W:=
 ⟨h.be,h.k2,h.k5,h.k7,h.k10,h.ne,h.k3,fun _=>⟨hd,rfl⟩,h.k11,fun e=>nT hi (h.k14 e).1.2.2.1⟩
theorem Wh (hi:L 11=false) (hd:L 10=true) (h:JM W0 B f s ct zf zs zp L y W):JM W0 B f s ct zf zs zp (cO L 11) (dG y 11 (.agg #[y 10,.slice none 0 0])) W:=
 ⟨h.be,h.k2,h.k5,h.k7,h.k10,h.ne,h.k3,h.k8,fun _=>⟨hd,rfl⟩,fun e=>nT hi (h.k14 e).1.2.2.2⟩
theorem Wy (h3:L 3=true) (h5:L 5=true) (h8:L 8=true) (h11:L 11=true) (h:JM W0 B f s ct zf zs zp L y W) :
  JM W0 B f s ct zf zs zp (cO L 14) (dG y 14 (.agg #[y 2,.int .i64 0,y 5,y 7,.slice none 0 0,y 10,.slice none 0 0,.slice none 0 0,.int .i64 ct,.slice none 0 0,.slice none 0 0])) W:=
 ⟨h.be,h.k2,h.k5,h.k7,h.k10,h.ne,h.k3,h.k8,h.k11,fun _=>⟨⟨h3,h5,h8,h11⟩,rfl⟩⟩
def TR (gf gs gw gd f s ct:Nat):MH:=⟨some ⟨gf,0,none⟩,f,⟨List.replicate f fr0,0⟩,some ⟨gs,0,none⟩,s,List.replicate s 0,some ⟨gw,0,none⟩,s,none,0,⟨List.replicate s zPg,[]⟩,some ⟨gd,0,none⟩,ct,none,0,⟨List.replicate ct zPg,[]⟩,none,0,[],ct,none,0,[],none,0,[]⟩
theorem UU {l:List UInt8} (hr:uk w al cl l.length (l.map yO)) (ha:∀a,al=some a→l.map yO≠[]→a.block<B) (hB:B≤b) (hk:aB w b (iV ⟨al,cl,l,TR gf gs gw gd f s ct,none,0,[]⟩) 77)
 (hf:f≤40) (hs:s≤60) (hc:ct≤80) (b1:B≤gf) (b2:B≤gs) (b3:B≤gw) (b4:B≤gd) (hne:gw≠gd) (ef:zf.toList=qf fr0) (es:zs.toList=[fT 0]) (ep:zp.toList=Br zPg)
 (k1:aB w gf (madeCells zf (f*13)) 81) (k2:aB w gs (madeCells zs (s*1)) 3) (k3:aB w gw (madeCells zp (s*8)) 79) (k4:aB w gd (madeCells zp (ct*8)) 79):ed w B b ⟨al,cl,l,TR gf gs gw gd f s ct,none,0,[]⟩:=by
 have m:maxLen=maxLen:=rfl;have o1:=CL qf fr0 (n:=f) fJ (by decide) ef (by unfold maxLen;omega) b1 k1;have o2:=CL (fun x=>[fT x]) (0:Int) (n:=s) (fun _=>rfl) (by decide) es (by unfold maxLen;omega) b2 k2;have o3:=CL Br zPg (n:=s) kD (by decide) ep (by unfold maxLen;omega) b3 k3;have o4:=CL Br zPg (n:=ct) kD (by decide) ep (by unfold maxLen;omega) b4 k4;refine⟨hk,hB,⟨?_,?_,⟨?_,Own.nil _ _ _ _⟩,⟨?_,Own.nil _ _ _ _⟩,nW.nil _ _,Own.nil _ _ _ _,Own.nil _ _ _ _,fun p hp=>(by cases hp),by show (-9223372036854775808:Int)≤(ct:Int)∧(ct:Int)≤9223372036854775807;omega⟩,Own.nil _ _ _ _,hr,ha,?_,fun p hp=>(by cases hp),rfl⟩
 ·show Own w B _ 13 (.slice (some ⟨gf,0,none⟩) (List.replicate f fr0).length f) (List.replicate f fr0).length _;rw[jD];exact o1
 ·show Own w B _ 1 (.slice (some ⟨gs,0,none⟩) (List.replicate s (0:Int)).length s) (List.replicate s (0:Int)).length ((List.replicate s (0:Int)).map fT);rw[jD,←iZ];exact o2
 ·show Own w B _ 8 (.slice (some ⟨gw,0,none⟩) (List.replicate s zPg).length s) (List.replicate s zPg).length _;rw[jD];exact o3
 ·show Own w B _ 8 (.slice (some ⟨gd,0,none⟩) (List.replicate ct zPg).length ct) (List.replicate ct zPg).length _;rw[jD];exact o4
 intro x hx hd;have e1:gw=x:=by simpa[TR,oB,Value.ownBlock] using hx
 have e2:gd=x:=by simpa[TR,oB,Value.ownBlock] using hd
 exact hne (e1.trans e2.symm)
def Bq (f q:Nat):List Fr:=List.replicate q frZ++List.replicate (f-q) fr0
theorem Ji (h:q≤f):(Bq f q).length=f:=by unfold Bq;simp;omega
theorem UH (h:q<f) (hl:q<(Bq f q).length):(Bq f q)[q]=fr0:=by
 have:(Bq f q)[q]?=some fr0:=by unfold Bq;rw[kK (by simp),jD,tV,nI,if_pos (by omega)]
 rw[aH hl] at this;exact aJ this
theorem Ue (h:q<f):(Bq f q).set q frZ=Bq f (q+1):=by
 unfold Bq;rw[List.set_append,if_neg (by simp),jD,tV];obtain⟨d,hd⟩:∃d,f-q=d+1:=⟨f-q-1,by omega⟩;rw[hd,show f-(q+1)=d by omega,List.replicate_succ,qC,List.replicate_succ',jG];rfl
theorem TJ (f:Nat):Bq f f=List.replicate f frZ:=by unfold Bq;simp
theorem Um {o:Nat} (hfit:o+13≤cur.size) (hc:∀j u,(qf fr0)[j]?=some u→cur[o+j]?=some u):bB cur (o+11) [.int .i64 (-1)]=bB cur o (qf frZ):=
 FL (xs:=qf fr0) rfl hfit hc (by decide) (fun i hi=>by
  obtain rfl:i=0:=by simpa using hi
  rfl) (fun i hi=>by
  by_cases h13:i<13
  ·match i,h13,hi with
   | 0,_,_=>rfl
   | 1,_,_=>rfl
   | 2,_,_=>rfl
   | 3,_,_=>rfl
   | 4,_,_=>rfl
   | 5,_,_=>rfl
   | 6,_,_=>rfl
   | 7,_,_=>rfl
   | 8,_,_=>rfl
   | 9,_,_=>rfl
   | 10,_,_=>rfl
   | 11,_,h=>exact absurd h (by simp)
   | 12,_,_=>rfl
  ·rw[dI (by rw[fJ];omega),dI (by rw[fJ];omega)])
structure Iw (f s ct:Nat) (as0:Option Addr) (fi0:List PF) (bl:List Page) (q:List (Int × Page)) (S:MW):Prop where
 m:S.H.m=⟨List.replicate f frZ,0⟩
 asl:S.H.asl=as0
 sl:S.H.sl=List.replicate s 0
 sw:S.H.sw=⟨List.replicate s zPg,[]⟩
 dk:S.H.dk=⟨bl,q⟩
 fi:S.H.fi=fi0
 ct:S.H.ct=ct
 ca:S.H.ca=[]
 sp:S.H.sp=[]
 T:S.T=[]
theorem Iw.ma {q:List (Int × Page)} (h:Iw f s ct as0 fi0 bl q S):S.H.ma=Bg f s ct bl q (fi0.map PF.fi):=by
 unfold MH.ma Bg bY;rw[h.m,h.sl,h.sw,h.dk,h.fi,h.ct,h.ca,h.sp];rfl
theorem Iw.lst {q:List (Int × Page)} (h:Iw f s ct as0 fi0 bl q S) (a:Option Addr) (c:Nat) (l:List UInt8):Iw f s ct as0 fi0 bl q (S.lst a c l):=⟨h.m,h.asl,h.sl,h.sw,h.dk,h.fi,h.ct,h.ca,h.sp,h.T⟩
theorem ed.kb_int (h:ed w B b S) {x:Nat} (hk:aB w x cs 3) (hx:oB S.H.asl≠some x):¬mP b S x:=by
 have own:∀ {e:TypeId} {sz n c:Nat} {a:Option Addr} {xs:List Value},3≠e→Own w B e sz (.slice a n c) n xs→oB a=some x→False:=fun ht ho hx=>by obtain⟨_,cs',h2⟩:=iQ ho hx;exact lQ hk h2 ht rfl
 intro hx';rcases hx' with hx' | hx'
 ·subst hx'; exact lQ hk h.blk (by decide) rfl
 simp only[gZ,bZ,fP,or_false] at hx';rcases hx' with hx' | hx' | hx' | hx' | hx' | hx' | hx' | hx' | hx'
 ·exact own (by decide) h.ma.fr hx'.symm
 ·exact hx hx'.symm
 ·exact own (by decide) h.ma.sw.b hx'.symm
 ·exact own (by decide) h.ma.dk.b hx'.symm
 ·exact own (by decide) h.ma.dk.q hx'.symm
 ·exact own (by decide) h.ma.st.own hx'.symm
 ·exact own (by decide) h.ma.ca hx'.symm
 ·exact own (by decide) h.ma.sp hx'.symm
 ·exact own (by decide) h.tt hx'.symm
theorem ed.locI (h:ed w B b S) (hk:aB w g cs 3) (hn:¬mP b S g) (hfi:∀p∈S.H.fi,oB p.a≠some g) (hgB:B≤g) (hg:w.grownBy w' (some g)):ed w' B b S:=by
 have d:∀ {a:Option Addr},oB a∈gZ S→∀n c g',(Value.slice a n c).ownBlock=some g'→some g≠some g':=fun hm n c g' he e=>by cases e;rw[lK] at he;exact hn (.inr (by rw[←he];exact hm))
 exact⟨h.blk.grown hg (fun e=>hn (.inl (aJ e))),h.ge,⟨h.ma.fr.grown hg (d (by simp[gZ]) _ _),h.ma.sl.grown hg (d (by simp[gZ]) _ _),⟨h.ma.sw.b.grown hg (d (by simp[gZ]) _ _),h.ma.sw.q.grown hg (fun g' he=>by rw[h.n3] at he;cases he)⟩,⟨h.ma.dk.b.grown hg (d (by simp[gZ]) _ _),h.ma.dk.q.grown hg (d (by simp[gZ]) _ _)⟩,
  ⟨h.ma.st.own.grown hg (d (by simp[gZ]) _ _),fun i p hp=>(h.ma.st.each i p hp).grown hg (fun g' he e=>by cases e;unfold mW at he;rw[lK] at he;exact hfi p (bO hp) he),h.ma.st.apart⟩,h.ma.ca.grown hg (d (by simp[gZ]) _ _),h.ma.sp.grown hg (d (by simp[gZ]) _ _),fun p hp=>⟨ak (h.ma.ps p hp).1 hk (by decide) hg,(h.ma.ps p hp).2.keep hk (by decide) hg⟩,h.ma.c64⟩,
  h.tt.grown hg (d (by simp[gZ]) _ _),h.rd.keep h.ra h.bs hg hgB,h.ra,h.n1,h.n2,h.n3⟩
theorem ed.setTb (h:ed w B b S) {P:PS} (hP:S.H.sp[p]?=some P) :
  ∃g off cur,S.H.ap=some ⟨g,off,none⟩∧B≤g∧aB w g cur 55∧off+p*10+2+8≤cur.size ∧
   ∀(w' : World) (v:Vector Value 8) (t:Tb),qG w B (nP v) t→aB w' g (bB cur (off+p*10+2) (nP v).toList) 55→w.grownBy w' (some g)→ed w' B b { S with H:={ S.H with sp:=S.H.sp.set p { P with ts:=v,tb:=t } } }:=by
 have hp:=(cK.1 hP).1;have l:=(cK.1 hP).2;obtain⟨g,off,cap,cur,hv,hB,a,m,f⟩:=mF sO (by decide) rfl h.ma.sp p hp;simp only[lU] at hv;obtain⟨k,_,n⟩:=hv;have e:=h.ma.sp;rw[k] at e;have d:=AL e a;have i:∀j u,(sW P)[j]?=some u→cur[off+p*10+j]?=some u:=fun j u hj=>by rw[mZ];exact d _ _ (flat_get sW 10 sO S.H.sp p hp j u (by rw[l];exact hj))
 refine⟨g,off,cur,k,hB,a,by omega,fun w' v t ht hb hg => ?_⟩;have e1:bB cur (off+p*10) (sW { P with ts:=v,tb:=t })=bB cur (off+p*10+2) (nP v).toList:=by show bB cur (off+p*10) (.bool P.lv :: .slice P.aa P.ar.length P.ac::(nP v).toList)=_;rw[uN _ (by simpa using i 0 _ rfl),uN _ (i 1 _ rfl)]
 rw[←e1] at hb;have c:(S.H.sp.set p { P with ts:=v,tb:=t }).length=S.H.sp.length:=bH;refine h.putP a hB hg c (by rw[c];exact f w' _ hb) fun q hq => ?_;rcases ni hq with hq|rfl
 ·exact h.ma.ps q hq
 ·exact⟨(h.ma.ps P (bO hP)).1,ht⟩
def Dy (S:MW) (B b:Nat) (w:World) (ks:List (Nat × Array Value × TypeId)) (p q:Nat) (e:TypeId) (sz n:Nat) (v0:Value) (old xs:List Value):(Nat→Bool)→(Nat→Value)→World→Prop:=fun L y W=>
 (aB W b (iV S) 77∧∀t∈ks,aB W t.1 t.2.1 t.2.2)∧(L p=false→ed W B b S∧MS w b S W S)∧(L q=true→L p=false→∃a c,y q = .slice a 1 c∧uk W a c 1 xs) ∧
 (L p=true→∃w1,ed w1 B b S∧MS w b S w1 S∧w1.grownBy W v0.ownBlock∧Own W B e sz (y p) (n+1) (old++xs)∧oo w1 v0 (y p))
theorem eQ {ks:List (Nat × Array Value × TypeId)} :∀L y W W',Below W.heap.size W W'→Dy S B b w ks p q e sz n v0 old xs L y W→Dy S B b w ks p q e sz n v0 old xs L y W':=
 fun _ _ _ _ hb ⟨h1,h2,h3,h4⟩=>⟨⟨h1.1.ext hb,fun t ht=>(h1.2 t ht).ext hb⟩,fun e=>⟨(h2 e).1.below hb,(h2 e).2.below hb⟩,fun e1 e2=>by
  obtain⟨a,e,k1,k2⟩:=h3 e1 e2;exact⟨a,e,k1,k2.below hb⟩,fun e=>by
  obtain⟨w1,k1,k2,k3,k4,k5⟩:=h4 e;exact⟨w1,k1,k2,KQ k3 hb,k4.below hb,k5⟩⟩
theorem fK {ks:List (Nat × Array Value × TypeId)} (hi:i≠q∧i≠p) (h:Dy S B b w ks p q e sz n v0 old xs L y W):Dy S B b w ks p q e sz n v0 old xs (cO L i) (dG y i v) W:=by
 obtain⟨h1,h2,h3,h4⟩:=h;have e15:cO L i q=L q:=by unfold cO;rw[if_neg (fun e=>hi.1 e.symm)]
 have e16:cO L i p=L p:=by unfold cO;rw[if_neg (fun e=>hi.2 e.symm)]
 have y15:dG y i v q=y q:=by unfold dG;rw[if_neg (fun e=>hi.1 e.symm)]
 have y16:dG y i v p=y p:=by unfold dG;rw[if_neg (fun e=>hi.2 e.symm)]
 exact⟨h1,by rw[e16];exact h2,by rw[e15,e16,y15];exact h3,by rw[e16,y16];exact h4⟩
theorem Rp {ks:List (Nat × Array Value × TypeId)} (hpq:p≠q) (hb:Below W.heap.size W W') (h:Dy S B b w ks p q e sz n v0 old xs L y W) (hr:uk W' a c 1 xs) :
  Dy S B b w ks p q e sz n v0 old xs (cO L q) (dG y q (.slice a 1 c)) W':=by
 obtain⟨h1,h2,h3,h4⟩:=eQ _ _ _ _ hb h;have e16:cO L q p=L p:=by unfold cO;rw[if_neg hpq]
 have y16:dG y q (.slice a 1 c) p=y p:=by unfold dG;rw[if_neg hpq]
 exact⟨h1,by rw[e16];exact h2,fun _ _=>⟨a,c,by unfold dG;rw[if_pos rfl],hr⟩,by rw[e16,y16];exact h4⟩
theorem QR {ks:List (Nat × Array Value × TypeId)} (hp:L p=false) (h:Dy S B b w ks p q e sz n v0 old xs L y W) (hg:W.grownBy W' v0.ownBlock)
 (hnb:∀g,v0.ownBlock=some g→g≠b∧∀t∈ks,t.1≠g) (ho:Own W' B e sz v (n+1) (old++xs)) (hs:oo W v0 v):Dy S B b w ks p q e sz n v0 old xs (cO L p) (dG y p v) W':=by
 obtain⟨h1,h2,h3,h4⟩:=h;refine⟨⟨h1.1.grown hg (fun e=>(hnb b e).1 rfl),fun t ht=>(h1.2 t ht).grown hg (fun e=>(hnb _ e).2 t ht rfl)⟩,fun e => ?_,fun _ e => ?_,fun _=>⟨W,(h2 hp).1,(h2 hp).2,hg,by unfold dG;rw[if_pos rfl];exact ho,by unfold dG;rw[if_pos rfl];exact hs⟩⟩<;>· unfold cO at e;rw[if_pos rfl] at e;cases e
theorem SY {ks:List (Nat × Array Value × TypeId)} (h:ed w B b S) (hk:∀t∈ks,aB w t.1 t.2.1 t.2.2) (y:Nat→Value):Dy S B b w ks p q e sz n v0 old xs (fun _=>false) y w:=
 ⟨⟨h.blk,hk⟩,fun _=>⟨h,MS.refl _ _ _⟩,fun e=>(by cases e),fun e=>(by cases e)⟩
def Fg (S:MW) (B b:Nat) (w:World) (gf:Nat) (F:PF):(Nat→Bool)→(Nat→Value)→World→Prop:=fun L y W=>
 (∃a c l,ed W B b (S.lst a c l)∧MS w b S W (S.lst a c l))∧aB W gf (pK F) 67∧Own W B 3 1 (mW F) F.l.length (F.l.map fT) ∧
 (L 4=true→L 11=false→∃g,y 4 = .slice (some ⟨g,0,none⟩) 0 0∧Own W w.heap.size 67 2 (.slice (some ⟨g,0,none⟩) 0 0) 0 []) ∧
 (L 11=true→L 14=false→Own W w.heap.size 67 2 (y 11) S.H.fi.length (S.H.fi.flatMap qg)) ∧
 (L 13=true→L 14=false→Own W w.heap.size 67 2 (y 13) 1 (qg F)) ∧
 (L 14=true→Own W w.heap.size 67 2 (y 14) (S.H.fi.length+1) (S.H.fi.flatMap qg++qg F))∧w.heap.size≤W.heap.size∧(L 15=true→L 14=true∧y 15 = .agg #[y 14,.int .i64 0])
theorem dO :∀L y W W',Below W.heap.size W W'→Fg S B b w gf F L y W→Fg S B b w gf F L y W':=
 fun _ _ _ _ hb ⟨⟨a,c,l,h1,h2⟩,h3,h4,h5,h6,h7,h8,h9,h10⟩=>⟨⟨a,c,l,h1.below hb,h2.below hb⟩,h3.ext hb,h4.below hb,fun e1 e2=>by obtain⟨g,k1,k2⟩:=h5 e1 e2;exact⟨g,k1,k2.below hb⟩,fun e1 e2=>(h6 e1 e2).below hb,fun e1 e2=>(h7 e1 e2).below hb,fun e1=>(h8 e1).below hb,bi h9 hb.size,h10⟩
theorem UW (h:ed w B b S) (hk:aB w gf (pK F) 67) (ho:Own w B 3 1 (mW F) F.l.length (F.l.map fT)) (y:Nat→Value):Fg S B b w gf F (fun _=>false) y w:=
 ⟨⟨S.al,S.cl,S.l,h,MS.refl _ _ _⟩,hk,ho,fun e=>(by cases e),fun e=>(by cases e),fun e=>(by cases e),fun e=>(by cases e),ay _,fun e=>(by cases e)⟩
theorem eG (hi:i≠4∧i≠11∧i≠13∧i≠14∧i≠15) (h:Fg S B b w gf F L y W):Fg S B b w gf F (cO L i) (dG y i v) W:=by
 have e:∀k,k=4∨k=11∨k=13∨k=14∨k=15→cO L i k=L k∧dG y i v k=y k:=fun k hk=>⟨by unfold cO;rw[if_neg (by omega)],by unfold dG;rw[if_neg (by omega)]⟩;have e4:=e 4 (by decide);have e11:=e 11 (by decide);have e13:=e 13 (by decide);have e14:=e 14 (by decide);have e15:=e 15 (by decide);unfold Fg;rw[e4.1,e4.2,e11.1,e11.2,e13.1,e13.2,e14.1,e14.2,e15.1,e15.2];exact h
theorem Wz (h:Fg S B b w gf F L y W):Fg S B b w gf F (cO L 4) (dG y 4 (.slice (some ⟨W.heap.size,0,none⟩) 0 0)) (W.alloc (.cells #[] 67)):=by
 obtain⟨h1,h3,h4,h5,h6,h7,h8,h9,a⟩:=dO _ _ _ _ ((Below.refl _ _).alloc (ay _) (.cells #[] 67)) h;exact⟨h1,h3,h4,fun _ _=>⟨_,rfl,Own.empty _ _ h.2.2.2.2.2.2.2.1⟩,h6,h7,h8,h9,a⟩
theorem VF (h:Fg S B b w gf F L y W) (hb:Below W.heap.size W W') (ho:Own W' w.heap.size 67 2 v S.H.fi.length (S.H.fi.flatMap qg)):Fg S B b w gf F (cO L 11) (dG y 11 v) W':=by
 obtain⟨h1,h3,h4,h5,h6,h7,h8,h9,a⟩:=dO _ _ _ _ hb h;exact⟨h1,h3,h4,fun _ e=>(by cases e),fun _ _=>ho,h7,h8,h9,a⟩
theorem VE (h:Fg S B b w gf F L y W) (hb:Below W.heap.size W W') (ho:Own W' w.heap.size 67 2 v 1 (qg F)):Fg S B b w gf F (cO L 13) (dG y 13 v) W':=by
 obtain⟨h1,h3,h4,h5,h6,h7,h8,h9,a⟩:=dO _ _ _ _ hb h;exact⟨h1,h3,h4,h5,h6,fun _ _=>ho,h8,h9,a⟩
theorem Od (h:ed w B b S) {l:List UInt8} {x:Nat} (hx:w.heap.size≤x):¬mP b (S.lst a c l) x:=fun hk=>h.new hx hk
theorem VB (h0:ed w B b S) (hgf:gf<w.heap.size) (h:Fg S B b w gf F L y W) (h11:L 11=true) (h14:L 14=false) (hg:W.grownBy W' (y 11).ownBlock) (ho:Own W' w.heap.size 67 2 v (S.H.fi.length+1) (S.H.fi.flatMap qg++qg F)) :
  Fg S B b w gf F (cO L 14) (dG y 14 v) W':=by
 obtain⟨⟨a,c,l,h1,h2⟩,h3,h4,h5,h6,h7,h8,h9,i⟩:=h;have o11:=h6 h11 h14;have d:∀k,(y 11).ownBlock=some k→w.heap.size≤k:=fun k hk=>o11.ge k hk;refine⟨⟨a,c,l,?_,?_⟩,h3.grown hg (fun e=>by have:=d _ e;omega),?_,fun _ e=>(by rw[show cO L 14 11=L 11 from rfl,h11] at e;cases e),fun _ e=>(by cases e),fun _ e=>(by cases e),fun _=>ho,bi h9 hg.size,fun e=>nT h14 (i e).1⟩
 ·cases hk:(y 11).ownBlock with
  | none=>rw[hk] at hg;exact h1.below (jZ hg)
  | some g=>
   rw[hk] at hg;obtain⟨cs,f⟩:=kQ o11 g hk;exact h1.locT f (by decide) (Od h0 (d g hk)) (bi h0.bs (d g hk)) hg
 ·cases hk:(y 11).ownBlock with
  | none=>rw[hk] at hg;exact h2.below (jZ hg)
  | some g=>rw[hk] at hg;exact h2.loc hg (d g hk)
 cases hk:(y 11).ownBlock with
 | none=>rw[hk] at hg;exact h4.below (jZ hg)
 | some g=>
  rw[hk] at hg;obtain⟨cs,f⟩:=kQ o11 g hk;exact ak h4 f (by decide) hg
theorem Rn (hi:i≠4∧i≠11∧i≠13∧i≠14∧i≠15) (h0:ed w B b S) (hgf:¬mP b S gf) (hxa:∀x,(mW F).ownBlock=some x→¬mP b S x) (n:Int) (hn : -9223372036854775808≤n∧n≤9223372036854775807) (h:Fg S B b w gf F L y W) {R:Value→World→Prop} (hR:∀x:Int,0≤x→x<256→∀W',R (.int .i64 x) W') :
  Calls Tryz.prog 30 #[.pointer (some ⟨b,0,none⟩),.int .i64 n] W fun e W' => ∃v,e = .returned v∧Fg S B b w gf F (cO L i) (dG y i v) W'∧R v W':=by
 obtain⟨⟨a,c,l,h1,h2⟩,h3,h4,h5,h6,h7,h8,h9,f⟩:=h;refine (fB _ n B b W h1 hn).mono ?_;rintro r W' ⟨x,a',c',l',rfl,k1,k2,k3,_⟩;have d:∀ {e:TypeId} {sz n:Nat} {v:Value} {xs:List Value},Own W w.heap.size e sz v n xs→Own W' w.heap.size e sz v n xs:=fun ho=>k2.ownN ho fun x hx=>Od h0 (ho.ge x hx);refine⟨_,rfl,eG hi ⟨⟨a',c',l',k1,h2.trans k2⟩,k2.blkN h3 hgf,k2.ownN h4 hxa,fun e1 e2 => ?_,fun e1 e2=>d (h6 e1 e2),fun e1 e2=>d (h7 e1 e2),fun e1=>d (h8 e1),bi h9 k2.size,f⟩,hR x k3.1 k3.2.1 W'⟩;obtain⟨g,e3,e4⟩:=h5 e1 e2;exact⟨g,e3,d e4⟩
theorem Vx (hd:L 14=true) (h:Fg S B b w gf F L y W):Fg S B b w gf F (cO L 15) (dG y 15 (.agg #[y 14,.int .i64 0])) W:=by
 obtain⟨h1,h3,h4,h5,h6,h7,h8,h9,a⟩:=h;exact⟨h1,h3,h4,h5,h6,h7,h8,h9,fun _=>⟨hd,rfl⟩⟩
theorem Ux (hB:B≤w.heap.size) (F:PF):Own (w.alloc (.cells (pK F) 67)) B 67 2 (.slice (some ⟨w.heap.size,0,none⟩) 1 1) 1 (qg F):=
 ⟨rfl,.inr ⟨w.heap.size,0,1,_,rfl,hB,aB.new _ _ _,ay _,by unfold maxLen;omega,ay _,fun j u hj=>by rw[eu,←tJ];exact hj⟩⟩
theorem Nt (h:Fg S B b w gf F L y W) (h14:L 14=true):∃a c,y 14 = .slice a (S.H.fi++[F]).length c∧Mw W a c (S.H.fi++[F]):=by
 obtain⟨⟨a,c,l,h1,h2⟩,h3,h4,h5,h6,h7,h8,h9,d⟩:=h;obtain⟨a',c',e,k1,k2,k3,k4⟩:=(h8 h14).rd;have hl:(S.H.fi++[F]).length=S.H.fi.length+1:=by simp
 refine⟨a',c',by rw[hl];exact e,by rw[hl];exact k1,k2,k3,by rw[eY];simpa using k4,fun p hp => ?_⟩;rcases fO.1 hp with hp|hp
 ·exact h1.ma.rd.st.good p hp
 rw[bv.1 hp];obtain⟨a9,c9,e9,q1,q2,q3,q4⟩:=h4.rd;unfold mW at e9;injection e9 with e9 e10 e11;subst e9;subst e11;exact⟨q1,q2,q3,q4⟩
theorem Wo {t:List En} (h:t.length=64):tL t=t.flatMap kS:=by
 have e:(List.range 64).map (fun i=>t.getD i zEn)=t:=by
  apply mR;intro i;rw[jO]
  by_cases hi:i<64
  ·rw[sG hi,aH (by omega)];show some (t.getD i zEn)=_;rw[aS,aH (by omega)];rfl
  ·rw[dI (by rw[Ct];omega),dI (by omega)];rfl
 unfold tL;rw[←Cr (f:=fun i=>t.getD i zEn) (g:=kS),e]
theorem Ka {s:St} {b:Int} (h:b∈kE s):gL s b=true:=by
 cases hu:gL s b with
 | true=>rfl
 | false=>exact absurd h (Hy hu)
theorem Vw {t:Tb} (h:cB t=0) (h0:∀n,(dH t n).k=0):t=zTb:=
 Vj h zTb_right fun n=>by
  rw[uW];have h1:=(dx _).1 (rC h n);have h2:=h0 n;rcases h1 with ⟨_,e1,e2⟩|⟨e,_⟩|⟨e,_⟩
  ·generalize dH t n=x at *
   obtain⟨a,b,c⟩:=x;simp only at h2 e1 e2;subst h2;subst e1;subst e2;rfl
  ·omega
  ·omega
theorem OL (H:MH) (w:World) (h:BR w H) (hR:Rt H.ma) :
  Calls Tryz.prog 48 #[.agg (dh H)] w fun r w'=>r = .returned (.int .i64 0)∧Below w.heap.size w w':=by
 have hh:=Lib.hid h;have hq:=Lib.hid hR;have i:=Lib.hid hR.pt;have z1:H.dk.blocks.length≤1000:=(qd hR).dkb;have z2:H.dk.queue.length≤1000:=(qd hR).dkq;clear hR;go_enter func48,ntmps48;go_upto_region 1 with (fail);refine gB (fun W=>Code.wp _ _ _ _ W) fun w1 hp bx1 hy => ?_;have bx1:aB w1 w.heap.size (dh H) 41:=bx1;have h1:=h.below hp;clear h hy;have r1:dP w1 (some ⟨w.heap.size,0,none⟩) [.slice H.af H.m.fs.length H.cf,.int .i64 H.m.hand]:=bJ bx1 0 2
 go_wp2_with (refine ax _ _ rfl w.heap.size 0 rfl rfl _ r1 _ underlying28 rfl mem_size ?_)
 refine (Jy H.m H.af H.cf _ h1.fr).mono ?_;rintro r w2 ⟨rfl,y⟩;rw[show bL H.m=0 from i.out.fr];have h2:=h1.below y;have bx2:=bx1.ext y;have hg:=ae hp y;clear h1 bx1 hp y r1;have hc:=bx2.cell;unfold dh at hc
 go_wp2_with fail
 refine (JD H.sl H.asl H.csl _ h2.sl.rd (by have:=h2.sl.le;have:=h2.sl.mx;unfold maxLen at this;omega)).mono ?_;rintro r w2' ⟨rfl,rfl⟩;rw[show dn H.sl=0 from i.out.sl];clear hc;have r2:dP w2' (some ⟨w.heap.size,3,none⟩) [.slice H.wb H.sw.blocks.length H.cwb,.slice H.wq H.sw.queue.length H.cwq]:=bJ bx2 3 2
 go_wp2_with (refine ax _ _ rfl w.heap.size 3 rfl rfl _ r2 _ underlying34 rfl disk_size ?_)
 refine (wy H.sw H.wb H.cwb H.wq H.cwq _ h2.sw).mono ?_;rintro r w3 ⟨rfl,x⟩;rw[show aY H.sw=0 from i.out.sw];have h3:=h2.below x;have bx3:=bx2.ext x;have hf:=ae hg x;clear h2 bx2 hg x r2;have r3:dP w3 (some ⟨w.heap.size,5,none⟩) [.slice H.db H.dk.blocks.length H.cdb,.slice H.dq H.dk.queue.length H.cdq]:=bJ bx3 5 2
 go_wp2_with (refine ax _ _ rfl w.heap.size 5 rfl rfl _ r3 _ underlying34 rfl disk_size ?_)
 refine (wy H.dk H.db H.cdb H.dq H.cdq _ h3.dk).mono ?_;rintro r w4 ⟨rfl,v⟩;rw[show aY H.dk=0 from i.out.dk];have h4:=h3.below v;have bx4:=bx3.ext v;have hd:=ae hf v;clear h3 bx3 hf v r3;have r4:dP w4 (some ⟨w.heap.size,7,none⟩) [.slice H.ai H.fi.length H.ci,.int .i64 H.ct]:=bJ bx4 7 2
 go_wp2_with (refine ax _ _ rfl w.heap.size 7 rfl rfl _ r4 _ underlying37 rfl store_size ?_)
 refine (KL H.fi H.ct H.ai H.ci _ h4.st h4.c64).mono ?_;rintro r w5 ⟨rfl,hn⟩;rw[show aO (bY H.fi H.ct)=0 from i.out.st];have bx5:=bx4.ext hn;have hb:=ae hd hn;clear h4 bx4 hd hn r4;have l1:Hid (H.sw.blocks.length=H.sl.length):=Lib.hid i.out.swl;have l2:Hid ((H.dk.blocks.length:Int)=H.ct):=Lib.hid i.out.dkl;have hc:=bx5.cell;unfold dh at hc;rw[←l2.out,l1.out] at hc;go_upto_region 18 with (fail);rw[←l1.out,l2.out] at hc;go_wp2
 go_loopw [68] (fun s68 wr => ∃k:Nat,k≤H.dk.blocks.length∧s68 = .int .i64 k∧Below w.heap.size w wr∧aB wr w.heap.size (dh H) 41) (fun s68 _=>H.dk.blocks.length-(intOf s68).toNat)
 case atStart=>exact⟨0,aV _,rfl,hb,bx5⟩
 case round=>
  clear hb bx5 hc;obtain⟨k,hk,rfl,a,bx⟩:=hrel;have hM:=hh.out.below a
  by_cases hkl:k<H.dk.blocks.length
  ·obtain⟨bd,od,p,j⟩:=jX kD (by decide) hM.dk.rb k hkl;have l:(k:Int)<(H.dk.blocks.length:Int):=by omega
   have hz:Hid ((k:Int)∈kE H.ma.st∨H.dk.blocks[k]=zPg):=Lib.hid (by
    have:=hq.out.trim.1 k (by omega) (by exact_mod_cast hkl);rw[bR] at this;have e:H.ma.dk.blocks.getD k zPg=H.dk.blocks[k]:=by show H.dk.blocks.getD k zPg=_;rw[aS,aH hkl];rfl
    rw[e] at this;exact this)
   generalize H.dk.blocks[k]=P at *
   rw[p]
   go_wp2_with (first | (refine ax _ _ rfl bd (od+k*8) rfl rfl _ j _ underlying79 rfl psize ?_) | (refine aI rfl _ _ _ rfl (iB P) rfl rfl rfl psize (jy _) ?_))
   intro w6 c px6;have d:=ae a c;have bx6:=bx.ext c;have q:=hM.below c;clear a bx c j hM;have r6:dP w6 (some ⟨w.heap.size,7,none⟩) [.slice H.ai H.fi.length H.ci,.int .i64 H.ct]:=bJ bx6 7 2
   go_wp2_with (refine ax _ _ rfl w.heap.size 7 rfl rfl _ r6 _ underlying37 rfl store_size ?_)
   refine (Aq H.fi H.ct k H.ai H.ci _ q.st).mono ?_;rintro r w7 ⟨rfl,b⟩;have g:=ae d b;have bx7:=bx6.ext b;have px7:=px6.ext b;clear d bx6 q px6 b r6;cases hu:gL (bY H.fi H.ct) (k:Int) with
   | true=>
    clear px7;go_wp2;go_roundw
    case rel=>exact⟨k+1,by omega,by go_num,g,bx7⟩
    case measure=>simp[intOf];omega
   | false=>
    have hP:P=zPg:=by
     rcases hz.out with e|e
     ·have h9:=Ka e;exact absurd (h9.symm.trans hu) (by decide)
     ·exact e
    subst hP;have f:=px7.cell;rw[lit0] at f;have hE:∀W,(Op.equalIn 10000 79 (.agg #[.int .u8 0,.int .u8 0,.int .u8 0,.int .u8 0,.int .u8 0,.int .u8 0,.int .u8 0,.int .u8 0]) (.agg #[.int .u8 0,.int .u8 0,.int .u8 0,.int .u8 0,.int .u8 0,.int .u8 0,.int .u8 0,.int .u8 0])).run Tryz.prog W = .ok true W:=fun W=>WK zPg zPg W;go_wp2;go_roundw
    case rel=>exact⟨k+1,by omega,by go_num,g,bx7⟩
    case measure=>simp[intOf];omega
  have l:¬(k:Int)<(H.dk.blocks.length:Int):=by omega
  have hc:=bx.cell;unfold dh at hc;clear hM;go_wp2
  go_loopw [88] (fun s88 wr => ∃k:Nat,k≤H.dk.queue.length∧s88 = .int .i64 k∧Below w.heap.size w wr∧aB wr w.heap.size (dh H) 41) (fun s88 _=>H.dk.queue.length-(intOf s88).toNat)
  case atStart=>exact⟨0,aV _,rfl,a,bx⟩
  case round=>
   clear a bx hc l;obtain⟨k,hk,rfl,a,bx⟩:=hrel;have hM:=hh.out.below a
   by_cases hkl:k<H.dk.queue.length
   ·obtain⟨bd,od,p,j⟩:=jX uV (by decide) hM.dk.rq k hkl;have l:(k:Int)<(H.dk.queue.length:Int):=by omega
    have hr:gL (bY H.fi H.ct) (H.dk.queue[k]).1=true:=Ka (hq.out.trim.2 _ (dN hkl));generalize H.dk.queue[k]=X at *
    rw[p]
    go_wp2_with (first | (refine ax _ _ rfl bd (od+k*9) rfl rfl _ j _ underlying86 rfl put_size ?_) | (refine aI rfl _ _ _ rfl (ES X) rfl rfl rfl put_size (NL _) ?_))
    intro w6 c px6;have d:=ae a c;have bx6:=bx.ext c;have q:=hM.below c;clear a bx c j hM;have f:=px6.cell;unfold ES at f;have r6:dP w6 (some ⟨w.heap.size,7,none⟩) [.slice H.ai H.fi.length H.ci,.int .i64 H.ct]:=bJ bx6 7 2
    go_wp2_with (refine ax _ _ rfl w.heap.size 7 rfl rfl _ r6 _ underlying37 rfl store_size ?_)
    refine (Aq H.fi H.ct X.1 H.ai H.ci _ q.st).mono ?_;rintro r w7 ⟨rfl,b⟩;have g:=ae d b;have bx7:=bx6.ext b;rw[hr];clear d bx6 q px6 b r6 f hr;go_wp2;go_roundw
    case rel=>exact⟨k+1,by omega,by go_num,g,bx7⟩
    case measure=>simp[intOf];omega
   have l:¬(k:Int)<(H.dk.queue.length:Int):=by omega
   have hc:=bx.cell;unfold dh at hc;have hG:H.sp.length≤4:=by have:=i.out.spl;rw[ER] at this;exact this
   clear hM;go_wp2
   go_loopw [106] (fun s106 wr => ∃k:Nat,k≤H.sp.length∧s106 = .int .i64 k∧Below w.heap.size w wr) (fun s106 _=>H.sp.length-(intOf s106).toNat)
   case atStart=>exact⟨0,aV _,rfl,a⟩
   case round=>
    clear a bx hc l;obtain⟨k,hk,rfl,a⟩:=hrel;have hM:=hh.out.below a
    by_cases hkl:k<H.sp.length
    ·obtain⟨bd,od,P,p,hP,j⟩:=zy hM.sp.rd k hkl;have l:(k:Int)<(H.sp.length:Int):=by omega
     have o:=xE hM hP;have ht:P.sp∈H.ma.sp:=by show P.sp∈H.sp.map PS.sp;exact gW.2 ⟨P,bO hP,rfl⟩
     have hF:(bI P.ar).1=0:=i.out.ar P.sp ht;have hs:cB P.tb=0:=i.out.tb P.sp ht;have hm:Hid (P.lv=false→P.ar=[]∧P.tb=zTb):=Lib.hid fun hl=>by have h9:=hq.out.live k (by rw[BB hP];exact hl);rw[BB hP] at h9;exact⟨h9.1,Vw hs fun n=>by have:=h9.2 n;unfold ent at this;rw[BB hP] at this;exact this⟩
     rw[p]
     go_wp2_with (first | (refine ax _ _ rfl bd (od+k*10) rfl rfl _ j _ underlying55 rfl space_size ?_) | (refine aI rfl _ _ _ rfl (vT P) rfl rfl rfl space_size (by rw[←jV,dK];exact o.one) ?_))
     intro w6 c px6;have d:=ae a c;have hj:=o.below c;have hA:=hj.ars;have f:=px6.cell;unfold vT at f;clear a c j hM o
     go_wp2_with fail
     refine (EM P.ar P.aa P.ac _ hA).mono ?_;rintro r w7 ⟨rfl,b⟩;rw[show Kr (bI P.ar)=#[.int .i64 0,.int .i64 (bI P.ar).2] from by unfold Kr;rw[hF]];have g:=ae d b;have hw:=hj.below b;have px7:=px6.ext b;clear f px6 d hj b hA
     go_wp2_with (refine aI rfl _ _ _ rfl #[.int .i64 0,.int .i64 (bI P.ar).2] rfl rfl rfl fau_size (mO _ _) ?_)
     intro w8 u ux8;have hC:=ux8.cell;have ha:=ae g u;have hi:=hw.below u;have px8:=px7.ext u;clear g hw px7 u;have s:dP w8 (some ⟨wr.heap.size,2,none⟩) (nP P.ts).toList:=bJ px8 2 8
     go_wp2_with (refine ax _ _ rfl wr.heap.size 2 rfl rfl _ s _ underlying53 tab_agg tab_size ?_)
     refine (Ju P.tb (nP P.ts) _ hi.tb).mono ?_;rintro r w9 ⟨rfl,t⟩;rw[hs];have z:=ae ha t;have hB:=hi.below t;have px9:=px8.ext t;clear hC ux8 ha hi px8 t s;have f:=px9.cell;unfold vT at f;cases hlv:P.lv with
     | true=>
      rw[hlv] at f;go_wp2;go_roundw
      case rel=>exact⟨k+1,by omega,by go_num,z⟩
      case measure=>simp[intOf];omega
     | false=>
      obtain⟨e1,e2⟩:=hm.out hlv;have hv:P.ar.length=0:=by rw[e1];rfl
      rw[hlv,hv] at f;have s:dP w9 (some ⟨wr.heap.size,2,none⟩) (nP P.ts).toList:=bJ px9 2 8;have hT:Fh w9 (nP P.ts) zTb:=by have:=hB.tb;rw[e2] at this;exact this
      clear hv
      go_wp2_with (refine ax _ _ rfl wr.heap.size 2 rfl rfl _ s _ underlying53 tab_agg tab_size ?_)
      refine (Po zTb zTb (nP P.ts) (nP nTs) _ hT (yS _ 0).rd).mono ?_;rintro r wa ⟨rfl,hD⟩;rw[Nb];have hx:=ae z hD;go_wp2;go_roundw
      case rel=>exact⟨k+1,by omega,by go_num,hx⟩
      case measure=>simp[intOf];omega
    have l:¬(k:Int)<(H.sp.length:Int):=by omega
    go_wp2;go_ret;exact⟨rfl,a⟩
theorem BC {α:Type} (q:α→Bool) (l:List α) (j:Nat) (hj:j<l.length):(l.take (j+1)).countP q=(l.take j).countP q+if q l[j]=true then 1 else 0:=by
 rw[mV,aH hj,Cn];simp[nJ]
end Go.Proofs.YtjkkoeijlhfneaaGreat