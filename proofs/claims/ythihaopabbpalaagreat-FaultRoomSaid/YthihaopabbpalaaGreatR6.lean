import Derived.Test.YthihaopabbpalaaGreatR5
import Derived.ArgAppend
import Derived.Deep.DeepCutAuto
import Derived.BigRegion
set_option linter.unusedSimpArgs false
set_option linter.unusedVariables false
set_option maxHeartbeats 4000000
set_option maxRecDepth 100000
namespace Go.Proofs.YthihaopabbpalaaGreat
open _root_.Go.Proofs.Tryz
open Go.RowKit Go.Maps Pw
variable {B B' B0 O b c c' g i k n' off p q sz:Nat} {H:MH} {L L':Nat -> Bool} {P:Program} {Q:Exit -> Act -> World -> Prop} {T e t:TypeId} {W W' W0 w w' w0 w1 w2:World} {X:Fr} {a a':Option Addr} {cs cur:Array Value} {h x:Operand} {m:Ma} {o:Oper} {ops:Array Oper} {rest:List Oper} {sl:List Int} {sp:List PS} {v:Value} {vs xs ys:List Value} {y:Nat -> Value} {ρ:Operand -> Value}
def tL (t:List En):List Value:=(List.range 64).flatMap λi=>lV (t.getD i zEn)
theorem zb (t:List En):(tL t).length=192:=by
 unfold tL;rw[Pw.flat_len (λi=>lV (t.getD i zEn)) 3 (λ_=>fV _),CK]
structure MW where
 al:Option Addr
 cl:Nat
 l:List UInt8
 H:MH
 ab:Option Addr
 cb:Nat
 T:List (List En)
def jE (S:MW):Array Value:=#[.slice S.al S.l.length S.cl,.slice S.H.af S.H.m.fs.length S.H.cf,.int .i64 S.H.m.hand,.slice S.H.asl S.H.sl.length S.H.csl,.slice S.H.wb S.H.sw.blocks.length S.H.cwb,.slice S.H.wq S.H.sw.queue.length S.H.cwq,
 .slice S.H.db S.H.dk.blocks.length S.H.cdb,.slice S.H.dq S.H.dk.queue.length S.H.cdq,.slice S.H.ai S.H.fi.length S.H.ci,.int .i64 S.H.ct,.slice S.H.ac S.H.ca.length S.H.cc,.slice S.H.ap S.H.sp.length S.H.cp,.slice S.ab S.T.length S.cb]
def iQ (S:MW):List (Option Nat):=[oB S.H.af,oB S.H.asl,oB S.H.wb,oB S.H.db,oB S.H.dq,oB S.H.ai,oB S.H.ac,oB S.H.ap,oB S.ab]
def nL (b:Nat) (S:MW) (x:Nat):Prop:=x=b\/some x∈iQ S
structure fu (w:World) (B b:Nat) (S:MW):Prop where
 blk:aG w b (jE S) 98
 ge:B<=b
 ma:wR w B S.H
 tt:Own w B 69 192 (.slice S.ab S.T.length S.cb) S.T.length (S.T.flatMap tL)
 rd:ve w S.al S.cl S.l.length (S.l.map CQ)
 ra:∀a,S.al=some a->S.l.map CQ≠[]->a.block<B
 n1:∀x,oB S.H.wb=some x->oB S.H.db≠some x
 n2:∀p∈S.H.fi,∀x,oB p.a=some x->oB S.H.asl≠some x
 n3:S.H.wq=none
structure MS (w0:World) (b:Nat) (S0:MW) (w:World) (S:MW):Prop where
 os:w.os=w0.os
 tape:w.tape=w0.tape
 output:w.output=w0.output
 size:w0.heap.size<=w.heap.size
 keep:∀x,x<w0.heap.size->¬nL b S0 x->w.heap[x]?=w0.heap[x]?
 sn:∀x,nL b S x->nL b S0 x\/w0.heap.size<=x
theorem MS.refl (w:World) (b:Nat) (S:MW):MS w b S w S:=⟨rfl,rfl,rfl,az _,λ_ _ _=>rfl,λ_ h => .inl h⟩
theorem MS.trans {u s n:MW} (h:MS w0 b u w1 s) (k:MS w1 b s w2 n):MS w0 b u w2 n:=
 ⟨k.os.trans h.os,k.tape.trans h.tape,k.output.trans h.output,bi h.size k.size,λx d j=>(k.keep x (oG d h.size) (λz=>(h.sn x z).elim j (λf=>absurd d (DW.2 f)))).trans (h.keep x d j),
  λx d=>(k.sn x d).elim (h.sn x) (λf => .inr (bi h.size f))⟩
theorem MS.below {j H:MW} (h:MS w0 b j w H) (d:Below w.heap.size w w'):MS w0 b j w' H:=
 ⟨d.os.trans h.os,d.tape.trans h.tape,d.output.trans h.output,bi h.size d.size,λx f n=>(d.block x (oG f h.size)).trans (h.keep x f n),h.sn⟩
theorem MS.put {y:Nat} {H0 H H' : MW} (h:MS w0 b H0 w H) (j:w.grownBy w' (some y)) (n:nL b H y) (s:∀x,nL b H' x->nL b H x\/w0.heap.size<=x):MS w0 b H0 w' H':=
 ⟨j.os.trans h.os,j.tape.trans h.tape,j.output.trans h.output,bi h.size j.size,λx d f=>(j.block x (oG d h.size) (λe=>by have e' : x=y:=aM e;rw[<-e'] at n;exact (h.sn x n).elim f (λu=>absurd d (DW.2 u)))).trans (h.keep x d f),λx d=>(s x d).elim (h.sn x) .inr⟩
theorem MS.loc {y:Nat} {n H:MW} (h:MS w0 b n w H) (d:w.grownBy w' (some y)) (s:w0.heap.size<=y):MS w0 b n w' H:=
 ⟨d.os.trans h.os,d.tape.trans h.tape,d.output.trans h.output,bi h.size d.size,λx j f=>(d.block x (oG j h.size) (λe=>by have e' : x=y:=aM e;omega)).trans (h.keep x j f),h.sn⟩
theorem MS.same {H0 H H' : MW} (h:MS w0 b H0 w H) (f:iQ H' = iQ H):MS w0 b H0 w H':=
 { h with sn:=λx d=>h.sn x (by unfold nL at d ⊢; rw[<-f];exact d) }
theorem fu.lt {S:MW} (h:fu w B b S):b<w.heap.size:=h.blk.lt
theorem fu.bs {S:MW} (h:fu w B b S):B<=w.heap.size:=bi h.ge (qZ h.lt)
theorem fu.below {S:MW} (h:fu w B b S) (d:Below w.heap.size w w'):fu w' B b S:=⟨h.blk.ext d,h.ge,h.ma.below d,h.tt.below d,h.rd.below d,h.ra,h.n1,h.n2,h.n3⟩
theorem fu.kb_own {S:MW} (h:fu w B b S) {x:Nat} (d:nL b S x):B<=x/\x<w.heap.size:=by
 have own:∀ {e:TypeId} {sz n c:Nat} {a:Option Addr} {xs:List Value},Own w B e sz (.slice a n c) n xs->oB a=some x->B<=x/\x<w.heap.size:=λf d=>by obtain⟨j,cs,h2⟩:=iY f d;exact⟨j,h2.lt⟩
 rcases d with d|d
 ·rw[d];exact⟨h.ge,h.lt⟩
 simp only[iQ,dw,gN,or_false] at d;rcases d with d|d|d|d|d|d|d|d|d
 ·exact own h.ma.fr d.symm
 ·exact own h.ma.sl d.symm
 ·exact own h.ma.sw.b d.symm
 ·exact own h.ma.dk.b d.symm
 ·exact own h.ma.dk.q d.symm
 ·exact own h.ma.st.own d.symm
 ·exact own h.ma.ca d.symm
 ·exact own h.ma.sp d.symm
 ·exact own h.tt d.symm
theorem MS.to {f S:MW} (h:fu w0 B b f) (d:MS w0 b f w S) (s:B0<=B):Below B0 w0 w:=
 ⟨d.os,d.tape,d.output,d.size,λx n=>d.keep x (by have:=h.bs;omega) (λj=>by have:=(h.kb_own j).1;omega)⟩
theorem MS.blkN {x:Nat} {f S:MW} (n:MS w0 b f w S) (d:aG w0 x cs T) (j:¬nL b f x):aG w x cs T:=(n.keep x d.lt j).trans d
theorem MS.not {x:Nat} {d S:MW} (j:MS w0 b d w S) (n:x<w0.heap.size) (f:¬nL b d x):¬nL b S x:=λh=>(j.sn x h).elim f (λh=>by omega)
theorem MS.ownN {s S:MW} {n:Nat} (z:MS w0 b s w S) (j:Own w0 B' t sz v n xs) (u:∀x,v.ownBlock=some x->¬nL b s x):Own w B' t sz v n xs:=
 ⟨j.1,j.2.imp id λ⟨g,off,d,cur,f,C,A,r⟩=>⟨g,off,d,cur,f,C,z.blkN A (u g (by rw[f];rfl)),r⟩⟩
theorem fu.new {S:MW} (h:fu w B b S) {x:Nat} (f:w.heap.size<=x):¬nL b S x:=λd=>by have:=(h.kb_own d).2;omega
theorem ve.keep {n:Nat} (h:ve w a c n vs) (C:∀x,a=some x->vs≠[]->x.block<B) (F:B<=w.heap.size) (z:w.grownBy w' (some g)) (s:B<=g):ve w' a c n vs:=
 ⟨h.le,h.mx,h.nl,λi u d=>by obtain⟨f,j,e,A⟩:=h.rd i u d;have E:f < B:=C _ e (λD=>by rw[D] at d;cases d);exact⟨f,j,e,z.cell A (λe=>by have G:f = g:=aM e;omega)⟩⟩
theorem fu.putL {S:MW} (h:fu w B b S) {l:List UInt8} (j:ve w a c l.length (l.map CQ)) (f:∀x,a=some x->l.map CQ≠[]->x.block<B) (n:aG w' b (bI (jE S) 0 [.slice a l.length c]) 98) (d:w.grownBy w' (some b)) :
  fu w' B b { S with al:=a,cl:=c,l:=l }:=
 ⟨n,h.ge,h.ma.keep h.blk (by decide) d,ax h.tt h.blk (by decide) d,j.keep f h.bs d h.ge,f,h.n1,h.n2,h.n3⟩
theorem wR.putF (h:wR w B H) (d:aG w g cs 66) (f:w.grownBy w' (some g)) {m:Mem} (n:Own w' B 66 13 (.slice H.af m.fs.length H.cf) m.fs.length (m.fs.flatMap pG)):wR w' B { H with m:=m }:=
 ⟨n,ax h.sl d (by decide) f,h.sw.keep d (by decide) (by decide) f,h.dk.keep d (by decide) (by decide) f,h.st.keep d (by decide) (by decide) f,ax h.ca d (by decide) f,ax h.sp d (by decide) f,λp j=>⟨ax (h.ps p j).1 d (by decide) f,(h.ps p j).2.keep d (by decide) f⟩,h.c64⟩
theorem fu.putF {S:MW} (h:fu w B b S) (f:aG w g cs 66) (j:B<=g) (d:w.grownBy w' (some g)) {fs:List Fr} (s:fs.length=S.H.m.fs.length) (n:Own w' B 66 13 (.slice S.H.af fs.length S.H.cf) fs.length (fs.flatMap pG)) :
  fu w' B b { S with H:={ S.H with m:=⟨fs,S.H.m.hand⟩ } }:=
 ⟨by
  have u:=bZ h.blk f (by decide) d;have e:jE { S with H:={ S.H with m:=⟨fs,S.H.m.hand⟩ } }=jE S:=by unfold jE;rw[show ({ S.H with m:=⟨fs,S.H.m.hand⟩ }:MH).m.fs.length=S.H.m.fs.length from s]
  rw[e];exact u,h.ge,h.ma.putF f d (m:=⟨fs,S.H.m.hand⟩) n,ax h.tt f (by decide) d,h.rd.keep h.ra h.bs d j,h.ra,h.n1,h.n2,h.n3⟩
theorem NS (t:List En) (i r:Nat) (f:i<64) (d:r<3):(tL t)[i*3+r]?=(lV (t.getD i zEn))[r]?:=by
 unfold tL;rw[jY (λi=>lV (t.getD i zEn)) 3 (λ_=>fV _) (List.range 64) i (by rw[CK];exact f) r d,IW]
theorem Wo {t:List En} {n:Nat} {x:En} (E:t.length=64) (D:n<64) (cur:Array Value) (o:Nat) (A:o+192<=cur.size) (C:∀j u,(tL t)[j]?=some u->cur[o+j]?=some u) :
  bI cur (o+n*3) (lV x)=bI cur o (tL (t.set n x)):=by
 have b:∀i,i<64->(t.set n x).getD i zEn=if i=n then x else t.getD i zEn:=λi s=>by
  rw[aX,nR]
  by_cases e:i=n
  ·subst e;rw[if_pos rfl,if_pos (by omega),if_pos rfl];rfl
  ·rw[if_neg (λh=>e h.symm),if_neg e,aX]
 apply mH;intro m;have c:(lV x).length=3:=fV x;have a:=zb (t.set n x)
 by_cases G:o<=m/\m<o+192
 ·obtain⟨d,rfl⟩:∃d,m=o+d:=⟨m-o,by omega⟩;have F:d<192:=by omega
  obtain⟨i,r,s,z,rfl⟩:∃i r,i<64/\r<3/\d=i*3+r:=⟨d / 3,d%3,by omega,by omega,by omega⟩;obtain⟨u,f⟩:∃u,(tL (t.set n x))[i*3+r]?=some u:=⟨_,aH (by omega)⟩;rw[putAt_in _ _ _ _ u (by rw[a];exact A) f];rw[NS _ i r s z,b i s] at f
  by_cases e:i=n
  ·subst e;rw[if_pos rfl] at f;rw[<-nQ];exact putAt_in _ _ _ _ u (by omega) f
  rw[if_neg e] at f;rw[putAt_out _ _ _ _ (by omega)];exact C _ _ (by rw[NS _ i r s z];exact f)
 ·rw[putAt_out _ _ _ _ (by omega),putAt_out _ _ _ _ (by omega)]
theorem fu.lst_len {S:MW} (d:p<S.T.length):fI S.T p=S.T[p]:=by
 unfold fI;rw[aX,aH d];rfl
theorem fu.ent {S:MW} (h:fu w B b S) {n:Nat} (C:p<S.T.length) (E:n<64) (D:(fI S.T p).length=64) :
  ∃g off cur,S.ab=some ⟨g,off,none⟩/\B<=g/\aG w g cur 69/\off+p*192+n*3+3<=cur.size/\(∀j u,(lV (fO S.T p n))[j]?=some u->w.cell? ⟨g,off+p*192+n*3+j,none⟩=some u) /\
   ∀w' x,aG w' g (bI cur (off+p*192+n*3) (lV x)) 69->w.grownBy w' (some g)->fu w' B b { S with T:=setL S.T p n x }:=by
 obtain⟨g,off,K,cur,z,G,A,M,F,I⟩:=h.tt.put zb (by decide) p C;simp only[mJ] at z;obtain⟨z,_,_⟩:=z;refine⟨g,off,cur,z,G,A,by omega,λj u s => ?_,λw' x d c => ?_⟩
 ·have i:j<3:=by
   rcases fQ j 3 with h|h
   ·exact h
   ·rw[fw (by rw[fV];exact h)] at s;cases s
  have:=F (n*3+j) u (by rw[NS _ n j E i,<-fu.lst_len C];exact s);rw[<-this];congr 2;omega
 have f:∀j u,(tL (fI S.T p))[j]?=some u->cur[off+p*192+j]?=some u:=λj u s=>by rw[fu.lst_len C] at s;have:=F j u s;rw[A.cell] at this;exact this
 rw[Wo D E cur _ (by omega) f] at d;have J:=I w' _ d;have a:({ S with T:=setL S.T p n x }:MW).T.length=S.T.length:=by show (setL S.T p n x).length=_;unfold setL;rw[bK]
 refine⟨?_,h.ge,h.ma.keep A (by decide) c,?_,h.rd.keep h.ra h.bs c G,h.ra,h.n1,h.n2,h.n3⟩
 ·have e:jE { S with T:=setL S.T p n x }=jE S:=by unfold jE;rw[a]
  rw[e];exact bZ h.blk A (by decide) c
 ·rw[a];exact J
theorem fu.putS {S:MW} (h:fu w B b S) (f:aG w g cs 3) (u:B<=g) (s:oB S.H.asl=some g) (d:w.grownBy w' (some g)) (A:sl.length=S.H.sl.length) (z:Own w' B 3 1 (.slice S.H.asl sl.length S.H.csl) sl.length (sl.map fZ)) :
    fu w' B b { S with H:={ S.H with sl:=sl } }:=
  ⟨by
    have C:=bZ h.blk f (by decide) d;have e:jE { S with H:={ S.H with sl:=sl } }=jE S:=by unfold jE;rw[show ({ S.H with sl:=sl }:MH).sl.length=S.H.sl.length from A]
    rw[e];exact C,h.ge,
   ⟨ax h.ma.fr f (by decide) d,z,h.ma.sw.keep f (by decide) (by decide) d,h.ma.dk.keep f (by decide) (by decide) d,⟨ax h.ma.st.own f (by decide) d,λi p n=>(h.ma.st.each i p n).grown d (λD j e=>by cases e;unfold nT at j;rw[jA] at j;exact h.n2 p (bV n) _ j s),h.ma.st.apart⟩,ax h.ma.ca f (by decide) d,ax h.ma.sp f (by decide) d,λp n=>⟨ax (h.ma.ps p n).1 f (by decide) d,(h.ma.ps p n).2.keep f (by decide) d⟩,h.ma.c64⟩,
   ax h.tt f (by decide) d,h.rd.keep h.ra h.bs d u,h.ra,h.n1,h.n2,h.n3⟩
theorem fu.putW {S:MW} (h:fu w B b S) (f:aG w g cs 58) (s:B<=g) (n:oB S.H.wb=some g) (d:w.grownBy w' (some g)) {l:List Page} (A:l.length=S.H.sw.blocks.length) (z:Own w' B 58 8 (.slice S.H.wb l.length S.H.cwb) l.length (l.flatMap CV)) :
    fu w' B b { S with H:={ S.H with sw:=⟨l,S.H.sw.queue⟩ } }:=
  ⟨by
    have C:=bZ h.blk f (by decide) d;have e:jE { S with H:={ S.H with sw:=⟨l,S.H.sw.queue⟩ } }=jE S:=by unfold jE;rw[show ({ S.H with sw:=⟨l,S.H.sw.queue⟩ }:MH).sw.blocks.length=S.H.sw.blocks.length from A]
    rw[e];exact C,h.ge,
   ⟨ax h.ma.fr f (by decide) d,ax h.ma.sl f (by decide) d,⟨z,ax h.ma.sw.q f (by decide) d⟩,⟨h.ma.dk.b.grown d (λD j e=>by cases e;rw[jA] at j;exact h.n1 _ n j),ax h.ma.dk.q f (by decide) d⟩,h.ma.st.keep f (by decide) (by decide) d,ax h.ma.ca f (by decide) d,ax h.ma.sp f (by decide) d,λp u=>⟨ax (h.ma.ps p u).1 f (by decide) d,(h.ma.ps p u).2.keep f (by decide) d⟩,h.ma.c64⟩,
   ax h.tt f (by decide) d,h.rd.keep h.ra h.bs d s,h.ra,h.n1,h.n2,h.n3⟩
theorem fu.setC {S:MW} (h:fu w B b S) {l:List Cc} (f:Own w B 122 3 (.slice a l.length c) l.length (l.flatMap iK)) (j:aG w' b (bI (jE S) 10 [.slice a l.length c]) 98) (d:w.grownBy w' (some b)) :
  fu w' B b { S with H:={ S.H with ac:=a,cc:=c,ca:=l } }:=
 ⟨j,h.ge,{ h.ma.keep h.blk (by decide) d with ca:=ax f h.blk (by decide) d },ax h.tt h.blk (by decide) d,h.rd.keep h.ra h.bs d h.ge,h.ra,h.n1,h.n2,h.n3⟩
def MW.lst (S:MW) (a:Option Addr) (c:Nat) (l:List UInt8):MW:={ S with al:=a,cl:=c,l:=l }
theorem oD (S:MW) (a a' : Option Addr) (c c' : Nat) (l l' : List UInt8):(S.lst a c l).lst a' c' l' = S.lst a' c' l':=rfl
theorem QJ {x:UInt8} {l:List UInt8} (h:dZ w a ((x::l).map CQ)):∃b o,a=some ⟨b,o,none⟩/\w.cell? ⟨b,o,none⟩=some (CQ x)/\dZ w (some ⟨b,o+1,none⟩) (l.map CQ):=by
 obtain⟨b,o,rfl,d⟩:=h.at (by simp);exact⟨b,o,rfl,d 0 _ rfl,λi u f=>⟨b,o+1,rfl,by
  have:=d (i+1) u (by simpa using f);rw[show o+1+i=o+(i+1) by omega];exact this⟩⟩
theorem fu.locT {S:MW} (h:fu w B b S) (z:aG w g cs T) (C:T≠3/\T≠94/\T≠68) (D:¬nL b S g) (A:B<=g) (f:w.grownBy w' (some g)):fu w' B b S:=by
 have d:∀ {a:Option Addr},oB a∈iQ S->∀n c u,(Value.slice a n c).ownBlock=some u->some g≠some u:=λE n c u j e=>by cases e;rw[jA] at j;exact D (.inr (by rw[<-j];exact E))
 have m:∀ {x:Option Nat} {l:List (Option Nat)},x∈x::l:=iL;refine⟨h.blk.grown f (λe=>D (.inl (aM e))),h.ge,⟨h.ma.fr.grown f (d (by simp[iQ]) _ _),h.ma.sl.grown f (d (by simp[iQ]) _ _),⟨h.ma.sw.b.grown f (d (by simp[iQ]) _ _),h.ma.sw.q.grown f (λu j=>by rw[h.n3] at j;cases j)⟩,⟨h.ma.dk.b.grown f (d (by simp[iQ]) _ _),h.ma.dk.q.grown f (d (by simp[iQ]) _ _)⟩,
  ⟨h.ma.st.own.grown f (d (by simp[iQ]) _ _),λi p s=>ax (h.ma.st.each i p s) z C.1 f,h.ma.st.apart⟩,h.ma.ca.grown f (d (by simp[iQ]) _ _),h.ma.sp.grown f (d (by simp[iQ]) _ _),λp s=>⟨ax (h.ma.ps p s).1 z C.2.1 f,(h.ma.ps p s).2.keep z C.2.2 f⟩,h.ma.c64⟩,
  h.tt.grown f (d (by simp[iQ]) _ _),h.rd.keep h.ra h.bs f A,h.ra,h.n1,h.n2,h.n3⟩
def WX (S:MW) (n:Int) (B b:Nat) (w:World) (r:Ending) (w' : World):Prop:=∃x a c l,r = .returned (.int .i64 x)/\fu w' B b (S.lst a c l)/\MS w b S w' (S.lst a c l)/\(0<=x/\x<256/\(x<n\/x=0))/\(S.l=[]->x=0/\l=[])
theorem fU (S:MW) (n:Int) (B b:Nat) (w:World) (h:fu w B b S) (hn : -9223372036854775808<=n/\n<=9223372036854775807) :
  Calls Tryz.prog 32 #[.pointer (some ⟨b,0,none⟩),.int .i64 n] w (WX S n B b w):=by
 obtain⟨al,cl,l,H,ab,cb,T⟩:=S;have C:ve w al cl l.length (l.map CQ):=h.rd;have g:∀a,al=some a->l.map CQ≠[]->a.block<B:=h.ra;have D:=h.blk.cell;unfold jE at D;dsimp only at D;have E:=ae h;have d:=ae g;go_enter func32,ntmps32;cases l with
 | nil=>
  clear h C g;go_wp2;go_ret;exact⟨0,al,cl,[],rfl,E.out,MS.refl _ _ _,by omega,λ_=>⟨rfl,rfl⟩⟩
 | cons x l=>
  obtain⟨A,z,rfl,i,o⟩:=QJ C.rd;have r:l.length+1<=cl:=by have:=C.le;simpa using this
  have p:=ae C.mx;have m:=ae o;have f:=h.blk;clear h C g o;unfold CQ at i
  by_cases M:n<1
  ·go_wp2;go_ret;exact⟨0,_,cl,x::l,rfl,E.out,MS.refl _ _ _,by omega,λe=>(by cases e)⟩
  have s:(1:Int)<=((l.length+1:Nat):Int):=by omega
  have K:=ae x.toNat_lt;have k:Hid ((0:Int)<=(x.toNat:Int)%n/\(x.toNat:Int)%n<256/\((x.toNat:Int)%n<n\/(x.toNat:Int)%n=0)):=ae (by
   have V:=Int.emod_nonneg (x.toNat:Int) (show n≠0 by omega);have U:=Int.emod_lt_of_pos (x.toNat:Int) (show (0:Int)<n by omega);have R:(x.toNat:Int)%n<=(x.toNat:Int):=by obtain⟨N,rfl⟩:=iI (show 0<=n by omega);rw[<-Ii];have:=Nat.mod_le x.toNat N;omega
   have:=K.out;omega)
  have q:IntKind.i64.wrap (x.toNat:Int)=(x.toNat:Int):=bG _ (by have:=K.out;omega)
  by_cases J:cl=1
  ·subst J;obtain rfl:l=[]:=DN.1 (by omega)
   go_wp2_with (refine aB rfl _ _ _ rfl b 0 _ [.slice (some ⟨A,z,none⟩) 0 0] rfl rfl rfl _ _ f (by show 0+1<=13;omega) (by kernel_rfl) (λu G=>by cases bC.1 G;rfl) ?_)
   intro w1 j c;clear D i;go_wp2;go_ret;have I:ve w (some ⟨A,z,none⟩) 0 0 (([]:List UInt8).map CQ):=⟨az _,aZ _,λe=>(by cases e),dZ.nil⟩;exact⟨_,some ⟨A,z,none⟩,0,[],rfl,E.out.putL I (λa e _=>by cases e;exact d.out _ rfl (by simp)) j c,(MS.refl w b _).put c (.inl rfl) λx F => .inl F,k.out,λe=>(by cases e)⟩
  go_wp2_with (refine aB rfl _ _ _ rfl b 0 _ [.slice (some ⟨A,z+1,none⟩) l.length (cl-1)] rfl rfl rfl _ _ f (by show 0+1<=13;omega) (by kernel_rfl) (λu G=>by cases bC.1 G;rfl) ?_)
  intro w1 j c;clear D i;go_wp2;go_ret;have I:ve w (some ⟨A,z+1,none⟩) (cl-1) l.length (l.map CQ):=⟨by omega,by have:=p.out;omega,λe=>(by cases e),m.out⟩;exact⟨_,some ⟨A,z+1,none⟩,cl-1,l,rfl,E.out.putL I (λa e _=>by cases e;exact d.out ⟨A,z,none⟩ rfl (by simp)) j c,(MS.refl w b _).put c (.inl rfl) λx F => .inl F,k.out,λe=>(by cases e)⟩
def WT (S:MW) (B b:Nat) (w:World) (r:Ending) (w' : World):Prop:=∃P a c l,r = .returned (.agg (fP P))/\fu w' B b (S.lst a c l)/\MS w b S w' (S.lst a c l)
theorem yB (S:MW) (B b:Nat) (w:World) (h:fu w B b S) :
  Calls Tryz.prog 35 #[.pointer (some ⟨b,0,none⟩)] w (WT S B b w):=by
 have o:=ae h.bs;go_enter func35,ntmps35;go_upto_region 3 with (fail);refine wH (λW=>Code.wp _ _ _ _ W) λw1 i G E s => ?_;have V:=h.below i;have R:=(MS.refl w b S).below i;have n:=ae (h.new (az _));have m:=ae (h.new (Nat.le_succ _));clear h
 go_loopw [5] (fun k wr => ∃(q:Nat) (P:Page) (a:Option Addr) (c:Nat) (l:List UInt8),q<=8/\k = .int .i64 q/\fu wr B b (S.lst a c l)/\MS w b S wr (S.lst a c l)/\aG wr w.heap.size (fP zPg) 58/\aG wr (w.heap.size+1) (fP P) 58) (fun k _=>8-(intOf k).toNat)
 case atStart=>exact⟨0,zPg,S.al,S.cl,S.l,aZ _,rfl,V,R,G,E⟩
 case round=>
  clear V R G E i s;obtain⟨q,P,a,c,l,hq,rfl,N,K,J,I⟩:=hrel;have hb:w.heap.size+2<=wr.heap.size:=I.lt
  by_cases M:q<8
  ·have t:(q:Int)<8:=by omega
   go_wp2_with fail
   refine (fU _ 4 B b _ N (by omega)).mono ?_;rintro r w2 ⟨x,a2,c2,Z,rfl,g,f,U,_⟩;rw[oD] at g f;have F:=f.blkN J n.out;have A:=f.blkN I m.out;have j:=K.trans f;obtain⟨x,rfl⟩:∃y:UInt8,x=(y.toNat:Int):=⟨UInt8.ofNat x.toNat,by rw[UInt8.toNat_ofNat'];omega⟩;have ha:((x.toNat:Nat):Int)<256:=U.2.1;clear N K J I f U
   go_wp2_with (refine aB rfl _ _ _ rfl (w.heap.size+1) q _ [.int .u8 x.toNat] rfl rfl rfl _ _ A (by show q+1<=8;omega) (by kernel_rfl) (λu hu=>by cases bC.1 hu;rfl) ?_)
   intro Y D d;rw[Pw.putAt_one,Bg _ q M] at D;have z:=g.locT A (by decide) m.out (by have:=o.out;omega) d;have p:=j.loc d (Nat.le_succ _);have C:=F.grown d (λe=>by have:=aM e;omega);clear g j F A d;go_wp2;go_roundw
   case rel=>exact⟨q+1,_,a2,c2,Z,by omega,by go_num,z,p,C,D⟩
   case measure=>simp[intOf];omega
  have t:¬(q:Int)<8:=by omega
  go_wp2_with (first | (refine ay _ _ rfl (w.heap.size+1) 0 rfl rfl _ I.rd _ underlying58 rfl psize ?_) | (refine aA rfl _ _ _ rfl w.heap.size (fP P) rfl rfl _ _ J rfl psize (je _) ?_))
  intro Y C d;go_wp2;refine bodyPost_ret (v:=.agg (fP P)) (fA results35 _ _ w.heap.size _ _ _ rfl C underlying58 rfl psize) rfl ?_;exact⟨P,a,c,l,rfl,N.locT J (by decide) n.out (by have:=o.out;omega) d,K.loc d (az _)⟩
def MW.frs (S:MW) (fs:List Fr):MW:={ S with H:={ S.H with m:=⟨fs,S.H.m.hand⟩ } }
def WL (S:MW) (f:Fr) (B b:Nat) (w:World) (r:Ending) (w' : World):Prop:=∃x a c l fs,r = .returned (.int .i64 x)/\fu w' B b ((S.lst a c l).frs fs)/\MS w b S w' ((S.lst a c l).frs fs) /\
   ((x = -1/\fs=S.H.m.fs)\/∃j:Nat,x=j/\j<S.H.m.fs.length/\(aD S.H.ma j).r=0/\fs=S.H.m.fs.set j f)
theorem Fh (S:MW) (f:Fr) (B b:Nat) (w:World) (h:fu w B b S) (hz:S.H.m.fs.length<=1000) :
  Calls Tryz.prog 124 #[.pointer (some ⟨b,0,none⟩),.agg (sU f)] w (WL S f B b w):=by
 go_enter func124,ntmps124;go_upto_region 1 with (fail);refine iC (λW=>Code.wp _ _ _ _ W) λw1 G D hy => ?_;have M:=h.below G;have Z:=(MS.refl w b S).below G;have hl:=ae (h.new (az _));have hJ:=ae h.bs;have A:=M.blk.cell;unfold jE at A;clear h G
 go_wp2_with fail
 refine (fU _ _ B b _ M (by omega)).mono ?_;rintro r w2 ⟨x,U,R,F,rfl,c,t,E,_⟩;have C:=t.blkN D hl.out;have s:=Z.trans t;clear M Z A t D hy;go_upto_region 4 with (fail);generalize hnn:S.H.m.fs.length=n at *
 go_loopw [20] (fun k wr => ∃q:Nat,q<=n/\k = .int .i64 q/\wr=w2) (fun k _=>n-(intOf k).toNat)
 case atStart=>exact⟨0,aZ _,rfl,rfl⟩
 case round=>
  obtain⟨q,hq,rfl,rfl⟩:=hrel;have A:=c.blk.cell;unfold jE at A;dsimp only[MW.lst] at A;rw[hnn] at A
  by_cases hqn:q<n
  ·have hA:(q:Int)<(n:Int):=by omega
   obtain⟨X,rfl⟩:=iI E.1;have hG:(X:Int)<256:=E.2.1;obtain⟨j,hC,hj⟩:∃j:Nat,j<n/\((X:Int)+(q:Int))%(n:Int)=j:=⟨(X+q)%n,tC _ (by omega),by rw[<-Int.natCast_add,<-Ii]⟩;have hI:(j:Int)<(n:Int):=by omega
   obtain⟨g,off,cap,cur,hv,hE,hg,hD,z,hs⟩:=c.ma.fr.put fJ (by decide) j (by show j<S.H.m.fs.length;omega);have l:S.H.af=some ⟨g,off,none⟩:=(oJ hv).1;rw[l] at A;have N:wr.cell? ⟨g,off+j*13+8,none⟩=some (.int .i64 (S.H.m.fs[j]'(by omega)).r):=z 8 _ rfl;have ht:Hid (aD S.H.ma j=S.H.m.fs[j]'(by omega)):=ae (by unfold aD;show S.H.m.fs.getD j fr0=_;rw[aX,aH (by omega)];rfl);clear hv;have hp:=ae hs;have hF:=ae z;clear hs z;generalize S.H.m.fs[j]'(by omega)=Y at N ht
   by_cases hr:Y.r=0
   ·rw[hr] at N;have hH:g≠w.heap.size:=λe=>hl.out (.inr (by rw[<-e];simp[iQ,l,oB];left;rfl));go_upto_region 8 with (fail);refine aN 9 [_,_,_,_,_,_,.v (.int .i64 (j:Int)),_,_] (Gk rfl (Gk rfl (Gf b 1 rfl rfl (Gf b 1 rfl rfl (Gf b 1 rfl rfl (Gl c.blk (V:=.slice (some ⟨g,off,none⟩) n S.H.cf) (by simp[jE,MW.lst,l,hnn]) rfl rfl rfl rfl (ah ?_ (Gr (.agg #[.int .u8 f.p[0].toNat,.int .u8 f.p[1].toNat,.int .u8 f.p[2].toNat,.int .u8 f.p[3].toNat,.int .u8 f.p[4].toNat,.int .u8 f.p[5].toNat,.int .u8 f.p[6].toNat,.int .u8 f.p[7].toNat,.int .i64 f.r,.bool f.u,.bool f.d,.int .i64 f.f,.int .i64 f.i]) (λρ y W J o=>(bF rfl (aI rfl o) (bH (C.ext J) 0 13) underlying66 rfl (by kernel_rfl))) rfl rfl (Gr (.pointer (some ⟨g,off+j*13,none⟩)) (λρ y W J o=>(bP rfl (aI rfl o) (aI rfl o) hC underlying30 frame_size)) rfl rfl (aF)))))))))) (λ_=>rfl) rfl ?_
    ·intro ρ y W hw hn J hd;have E8:ρ (.tmp 8) = .int .i64 (j:Int):=(hn (.tmp 8) rfl).trans (by show Value.int IntKind.i64 (((X:Int)+(q:Int))%(n:Int))=_;rw[hj]);refine ak (.int .i64 (j:Int)) (aj rfl) (run_move (.inl rfl) E8) rfl
    intro y W3 a _;have hm:=c.below a;have I:=hg.ext a;have hi:=s.below a;clear c C s a hg A N
    go_wp2_with (refine aB rfl _ _ _ rfl g (off+j*13) _ (pG f) rfl rfl rfl _ _ I (by rw[fJ];exact hD) (by kernel_rfl) (bU (oL f)) ?_)
    intro w4 h4 K;have hk:=hp.out _ f h4;have hB:=hm.putF I hE K (fs:=S.H.m.fs.set j f) (by simp[MW.lst]) (by simpa[MW.lst] using hk);have hu:=hi.put K (H':=(S.lst U R F).frs (S.H.m.fs.set j f)) (.inr (by simp[iQ,MW.lst,l,oB];left;rfl)) (λx E => .inl E);clear hm hi I K h4 hk;go_wp2;go_ret;exact⟨j,U,R,F,_,rfl,hB,hu,.inr ⟨j,rfl,by omega,by rw[ht.out];exact hr,rfl⟩⟩
   go_wp2;go_roundw
   case rel=>exact⟨q+1,by omega,by go_num,by first | rfl | trivial⟩
   case measure=>simp[intOf];omega
  have hA:¬(q:Int)<(n:Int):=by omega
  go_wp2;go_ret;exact⟨-1,U,R,F,S.H.m.fs,rfl,c,s,.inl ⟨rfl,rfl⟩⟩
theorem QI (d:wC) (k:Int) (ab:Option Addr) (cb:Nat) (aq:Option Addr) (cq:Nat) (w:World) (h:QM w ab cb aq cq d) :
  Calls Tryz.prog 79 #[.agg #[.slice ab d.blocks.length cb,.slice aq d.queue.length cq],.int .i64 k] w λe w'=>e = .returned (.tuple #[.agg (fP (dL d k)),.int .i64 (aK d k)])/\Below w.heap.size w w':=by
 go_enter func79,ntmps79
 go_wp2_with fail
 refine wH (λW=>Calls _ _ _ W _) λW0 z hb hf hq => ?_;refine (xh d ab cb aq cq _ (h.below z)).mono ?_;rintro e w1 ⟨rfl,t⟩;have a:=ag z t;have v:=hb.ext t;have g:=hf.ext t;have Z:=h.below a;clear hb hf t z hq;have lq:=bi Z.lq Z.mq;unfold maxLen at lq;have hu:=v.cell
 by_cases Y:bW d=0
 ·rw[Y]
  by_cases C:k<0\/(d.blocks.length:Int)<=k
  ·have D:aK d k=3:=by unfold aK;rw[if_neg (by omega),if_pos C]
   have F:fP (dL d k)=#[.int .u8 0,.int .u8 0,.int .u8 0,.int .u8 0,.int .u8 0,.int .u8 0,.int .u8 0,.int .u8 0]:=by unfold dL;rw[D];rfl
   rcases C with C|C
   all_goals
    go_wp2_with (refine aA rfl _ (.tmp 4) (.tmp 25) rfl (w.heap.size+1) #[.int .u8 0,.int .u8 0,.int .u8 0,.int .u8 0,.int .u8 0,.int .u8 0,.int .u8 0,.int .u8 0] rfl rfl _ _ g zz_fit zz_info zz_one ?_)
    all_goals
     intro w2 y l;have f:=a.grown l a.size (λk C=>by cases C;omega);have q:=y.cell;go_wp2;simp[bodyPost,results,go_sem,results79,q,D,F];exact f
  obtain⟨k,rfl⟩:=iI (show 0<=k by omega);have hl:k<d.blocks.length:=by omega
  have k1:¬(d.blocks.length:Int)<=(k:Int):=by omega
  have kz:(k:Int)<(d.blocks.length:Int):=by omega
  have D:aK d k=0:=by unfold aK;rw[if_neg (by omega),if_neg C]
  have F:dL d k=over k d.blocks[k] d.queue:=by unfold dL;rw[D,if_pos rfl];simp[hl]
  have Q:=ae (And.intro D F);have hy:w.heap.size+2<=w1.heap.size:=by have:=g.lt;omega
  clear C D F;have hd:decide (d.blocks.length<=k)=false:=by simp;omega
  obtain⟨b,off,rfl,A⟩:=Ot Z.rb k hl;have I:=A 0 (by decide);have V:=A 1 (by decide);have U:=A 2 (by decide);have S:=A 3 (by decide);have R:=A 4 (by decide);have N:=A 5 (by decide);have M:=A 6 (by decide);have K:=A 7 (by decide);simp only[fP,yA,qQ,xR,iJ] at I V U S R N M K;clear A;go_upto_region 7 with (fail);refine iC (λW=>Code.wp _ _ _ _ W) λw2 s hi hn => ?_;have f:=ag a s;have ha:=v.ext s;have o:=g.ext s;have u : aG w2 w1.heap.size (fP d.blocks[k]) 58:=hi;clear a v g Z s hi hn hu I V U S R N M K;have ht:=ha.cell;go_wp2;clear ht ha
  go_loopw [34] (fun i wr => ∃j:Nat,j<=d.queue.length/\i = .int .i64 j/\Below w.heap.size w wr/\aG wr (w.heap.size+1) #[.int .u8 0,.int .u8 0,.int .u8 0,.int .u8 0,.int .u8 0,.int .u8 0,.int .u8 0,.int .u8 0] 58/\aG wr w1.heap.size (fP (over k d.blocks[k] (d.queue.take j))) 58) (fun i _=>d.queue.length-(intOf i).toNat)
  case atStart=>exact⟨0,aZ _,rfl,f,o,u⟩
  case round=>
   clear f o u;obtain⟨j,hj,rfl,c,n,G⟩:=hrel
   by_cases J:j<d.queue.length
   ·obtain⟨b',off',rfl,A⟩:=Ip (h.below c).rq j J;have I:=A 0 (by decide);have V:=A 1 (by decide);have U:=A 2 (by decide);have S:=A 3 (by decide);have R:=A 4 (by decide);have N:=A 5 (by decide);have M:=A 6 (by decide);have K:=A 7 (by decide);have c8:=A 8 (by decide);simp only[GZ,yA,qQ,xR,iJ] at I V U S R N M K c8;clear A;have r:=ae (Hz (k:Int) d.blocks[k] d.queue j J)
    by_cases E:d.queue[j].1=(k:Int)
    ·have p : Hid (over (k:Int) d.blocks[k] (d.queue.take (j+1))=d.queue[j].2):=by have:=r.out;rw[if_pos E] at this;exact this
     rw[E] at I;clear r E;have hh:=G.alloc (.cells #[.int .i64 k,.int .u8 d.queue[j].2[0].toNat,.int .u8 d.queue[j].2[1].toNat,.int .u8 d.queue[j].2[2].toNat,.int .u8 d.queue[j].2[3].toNat,.int .u8 d.queue[j].2[4].toNat,.int .u8 d.queue[j].2[5].toNat,.int .u8 d.queue[j].2[6].toNat,.int .u8 d.queue[j].2[7].toNat] 105)
     go_wp2_with (refine aA rfl _ (.tmp 7) (.tmp 43) rfl w1.heap.size (fP d.queue[j].2) rfl rfl _ _ hh (UV _ _) (zR _) (je _) ?_)
     intro w4 hs l;have m:=(c.alloc c.size _).grown l (dE c.size _) (λk C=>by cases C;omega);have x:=(n.alloc _).grown l (λE=>by have:=aM E;omega);clear hh G c n l I V U S R N M K c8;go_wp2;go_roundw
     case rel=>exact⟨j+1,by omega,by go_num,m,x,by rw[p.out];exact hs⟩
     case measure=>simp[intOf];omega
    have p : Hid (over (k:Int) d.blocks[k] (d.queue.take (j+1))=over (k:Int) d.blocks[k] (d.queue.take j)):=by have:=r.out;rw[if_neg E] at this;exact this
    have hx:(d.queue[j].1==(k:Int))=false:=by simpa using E
    clear r E;go_wp2;go_roundw
    case rel=>exact⟨j+1,by omega,by go_num,c.alloc c.size _,n.alloc _,by rw[p.out];exact G.alloc _⟩
    case measure=>simp[intOf];omega
   rw[ji (show d.queue.length<=j by omega)] at G;have hg:=Q.out.2;rw[<-hg] at G;have hm:=G.cell;rw[DJ] at hm;clear hg
   go_wp2_with (refine aA rfl _ (.tmp 4) (.tmp 45) rfl (w.heap.size+1) (fP (dL d k)) rfl rfl _ _ n (LY _) (zR _) (je _) ?_)
   intro w4 hr l;have m:=c.grown l c.size (λk C=>by cases C;omega);have q:=hr.cell;obtain⟨e0,e1,e2,e3,e4,e5,e6,e7⟩:=xV (dL d k);clear hm;go_wp2;simp[bodyPost,results,go_sem,results79,q,e0,e1,e2,e3,e4,e5,e6,e7,Q.out.1];exact⟨rfl,m⟩
 have D:aK d k=bW d:=by unfold aK;rw[if_pos Y]
 have F:fP (dL d k)=#[.int .u8 0,.int .u8 0,.int .u8 0,.int .u8 0,.int .u8 0,.int .u8 0,.int .u8 0,.int .u8 0]:=by unfold dL;rw[D,if_neg Y];rfl
 have hv : (bW d != 0)=true:=by simpa using Y
 go_wp2_with (refine aA rfl _ (.tmp 4) (.tmp 14) rfl (w.heap.size+1) #[.int .u8 0,.int .u8 0,.int .u8 0,.int .u8 0,.int .u8 0,.int .u8 0,.int .u8 0,.int .u8 0] rfl rfl _ _ g zz_fit zz_info zz_one ?_)
 intro w2 y l;have f:=a.grown l a.size (λk C=>by cases C;omega);have q:=y.cell;go_wp2;simp[bodyPost,results,go_sem,results79,q,D,F];exact f
theorem SC {o:Nat} (h:dZ w (some ⟨b,o,none⟩) (xs++ys)):dZ w (some ⟨b,o,none⟩) xs:=λi u d=>h i u (by
 rw[kF (cz.1 d).1];exact d)
theorem QZ (x:Fr):∃ys,pG x=CV x.p++ys:=⟨_,rfl⟩
theorem QP {l:List Cc} {c:Cc} {f i:Int} (s:l[q]?=some c) (j:∀d∈l.take q,¬(d.f=f/\d.i=i)) (n:c.f=f/\c.i=i):l.find? (λc=>decide (c.f=f)&&decide (c.i=i))=some c:=by
 rw[<-qX q l,List.find?_append,qI.2 (λd u=>by have:=j d u;simp only[dU,decide_eq_true_eq];exact this)];rw[wK (cz.1 s).1,(cz.1 s).2,List.find?_cons,n.1,n.2];simp
theorem EO {l:List Cc} {f i:Int} (j:∀d∈l,¬(d.f=f/\d.i=i)):l.find? (λc=>decide (c.f=f)&&decide (c.i=i))=none:=
 qI.2 (λd n=>by have:=j d n;simp only[dU,decide_eq_true_eq];exact this)
theorem Io (H:MH) (f i:Int) (w:World) (h:FD w H) (hz:H.ca.length<=1000/\∀f∈H.ma.st.fs,f.b.length<=1000) (hck:∀c∈H.ca,0<=c.k/\c.k<H.m.fs.length) (hf:0<=f/\f<H.fi.length) (hi:0<=i/\i<(aS H.ma.st f).b.length) :
  Calls Tryz.prog 80 #[.agg (fB H),.int .i64 f,.int .i64 i] w λr w'=>r = .returned (.agg (fP (bq H.ma f i)))/\Below w.heap.size w w':=by
 have z7:H.ca.length<=1000:=hz.1;go_enter func80,ntmps80;go_upto_region 1 with (fail);refine wH (λW=>Code.wp _ _ _ _ W) λw1 hR Y rx1 hW => ?_;clear hW;have hr:=Y.cell;unfold fB at hr;go_upto_region 2 with (fail);clear hr
 go_loopw [16] (fun k wr => ∃q:Nat,q<=H.ca.length/\k = .int .i64 q/\Below w.heap.size w wr/\aG wr w.heap.size (fB H) 45/\aG wr (w.heap.size+1) (fP zPg) 58/\Hid (∀d∈H.ca.take q,¬(d.f=f/\d.i=i))) (fun k _=>H.ca.length-(intOf k).toNat)
 case atStart=>exact⟨0,aZ _,rfl,hR,Y,rx1,ae (by simp)⟩
 case round=>
  clear hR Y rx1;obtain⟨q,hq,rfl,g,E,D,hv⟩:=hrel
  by_cases hql:q<H.ca.length
  ·obtain⟨bc,oc,h0,t⟩:=zy (h.below g).ca.rd q hql;obtain⟨c,hc⟩:∃c,H.ca[q]?=some c:=⟨_,aH hql⟩;rw[show H.ca[q]=c from (cz.1 hc).2] at t;have hY:(q:Int)<(H.ca.length:Int):=by omega
   have hC:=hck c (bV hc);have hO:=ae hc;clear hc;rw[h0]
   go_wp2_with (first | (refine ay _ _ rfl bc (oc+q*3) rfl rfl _ t _ underlying122 rfl cached_size ?_) | (refine aL rfl _ _ _ rfl (vV c) rfl rfl rfl cached_size (wI c) ?_))
   intro w3 hA cx3;have ha:=ag g hA;have V:=E.ext hA;have G:=D.ext hA;have s:=cx3.cell;have kc:=G.lt;clear g E D hA t;unfold vV at s
   by_cases hy:c.f=f/\c.i=i
   ·obtain⟨ht,hD⟩:=hy;obtain⟨k,A⟩:=iI hC.1;have hL:k<H.m.fs.length:=by have:=hC.2;omega
    obtain⟨Z,of,h3,hg⟩:=kM fJ (by decide) (h.below ha).fr.rd k hL;have hM:(k:Int)<(H.m.fs.length:Int):=by omega
    have o:Hid (bq H.ma f i=(H.m.fs[k]).p):=ae (by unfold bq;rw[show H.ma.ca.find? (λc=>decide (c.f=f)&&decide (c.i=i))=some c from QP hO.out hv.out ⟨ht,hD⟩];show (H.m.fs.getD c.k.toNat fr0).p=_;rw[A,aX,show ((k:Nat):Int).toNat=k from rfl,aH hL];rfl);generalize H.m.fs[k]=X at hg o;obtain⟨ys,hI⟩:=QZ X;rw[hI] at hg;have hK:=SC hg;have hZ:w3.cell? ⟨w.heap.size,0,none⟩=some (.slice (some ⟨Z,of,none⟩) H.m.fs.length H.cf):=by rw[V.cell,<-h3];rfl
    rw[ht,hD,A] at s;clear hg hI
    go_wp2_with (first | (refine ay _ _ rfl Z (of+k*13) rfl rfl _ hK _ underlying58 rfl psize ?_) | (refine aA rfl _ _ _ rfl (w.heap.size+1) (fP X.p) rfl rfl _ _ G rfl psize (je X.p) ?_))
    intro J N hF;have y:=ha.grown hF ha.size (λk A=>by cases A;omega);clear s hZ;go_wp2;refine bodyPost_ret (v:=.agg (fP X.p)) (fA results80 _ _ (w.heap.size+1) _ _ _ rfl N underlying58 rfl psize) rfl ?_;exact⟨by rw[o.out],y⟩
   have hB : Hid (∀d∈H.ca.take (q+1),¬(d.f=f/\d.i=i)):=ae λd hd=>by
    rw[take_at hO.out] at hd;rcases gP.1 hd with hd|hd
    ·exact hv.out d hd
    ·rw[bC.1 hd];exact hy
   by_cases ht:c.f=f
   ·have hD:¬c.i=i:=λe=>hy ⟨ht,e⟩;clear hy;go_wp2;go_roundw
    case rel=>exact⟨q+1,by omega,by go_num,ha,V,G,hB⟩
    case measure=>simp[intOf];omega
   clear hy;go_wp2;go_roundw
   case rel=>exact⟨q+1,by omega,by go_num,ha,V,G,hB⟩
   case measure=>simp[intOf];omega
  have hY:¬(q:Int)<(H.ca.length:Int):=by omega
  rw[ji (by omega)] at hv;have s:=E.cell;unfold fB at s;obtain⟨F,rfl⟩:=iI hf.1;obtain⟨I,rfl⟩:=iI hi.1;have hV:F<H.fi.length:=by omega
  obtain⟨Z,of,hH,t⟩:=kM lh (by decide) h.st.rd F hV;obtain⟨p,hp⟩:∃p,H.fi[F]?=some p:=⟨_,aH hV⟩;rw[show H.fi[F]=p from (cz.1 hp).2] at t;have hJ:=ae t;have t:=t.below g;have hm:=(h.below g).st.good p (bV hp);have hn:aS H.ma.st (F:Int)=p.fi:=by unfold aS;rw[if_pos (by omega)];show (H.fi.map PF.fi).getD F ⟨0,[]⟩=p.fi;rw[aX,jv,hp];rfl
  rw[hn] at hi;have hU:I<p.l.length:=by have h2:=hi.2;have e:p.fi.b.length=p.l.length:=rfl;omega
  have h9:p.l.length<=1000:=hz.2 p.fi (ja.2 ⟨p,bV hp,rfl⟩);obtain⟨bb,ob,hE,hr⟩:=kD hm.rd I hU;obtain⟨x,hX⟩:∃x,p.l[I]?=some x:=⟨_,aH hU⟩;rw[show p.l[I]=x from (cz.1 hX).2] at hr;have U:bM H.ma.st (F:Int) (I:Int)=x:=by unfold bM;rw[hn];show p.l.getD I 0=x;rw[aX,hX];rfl
  have rc:∀j u,(qW p)[j]?=some u->wr.cell? ⟨Z,of+F*2+j,none⟩=some u:=λj u hj=>by obtain⟨b',o',e,hG⟩:=t j u hj;cases e;exact hG
  have R:wr.cell? ⟨Z,of+F*2,none⟩=some (.int .i64 p.n):=rc 0 _ rfl;have rc1:wr.cell? ⟨Z,of+F*2+1,none⟩=some (.slice p.a p.l.length p.c):=rc 1 _ rfl;have o:Hid (bq H.ma F I=if 0<=x then dn (dL H.dk x) (p.n-(I:Int)*8) else zPg):=ae (by unfold bq;rw[show H.ma.ca.find? (λc=>decide (c.f=(F:Int))&&decide (c.i=(I:Int)))=none from EO hv.out,U,hn];rfl);have ke:(F:Int)<(H.fi.length:Int):=by omega
  have kd:(I:Int)<(p.l.length:Int):=by omega
  rw[hE] at rc1;rw[hH] at s;have h4:=ae t;have hS:=ae hH;have h5:=ae hE;have h6:=ae hn;clear rc t hH hE hn hp hX U hi hm
  by_cases hx:x<0
  ·go_wp2_with (refine aA rfl _ _ _ rfl (w.heap.size+1) (fP zPg) rfl rfl _ _ D rfl psize (je _) ?_)
   intro J N hF;have y:=g.grown hF g.size (λk A=>by cases A;omega);clear s;go_wp2;refine bodyPost_ret (v:=.agg (fP zPg)) (fA results80 _ _ (w.heap.size+1) _ _ _ rfl N underlying58 rfl psize) rfl ?_;exact⟨by rw[o.out,if_neg (by omega)],y⟩
  go_wp2_with (refine ay _ _ rfl w.heap.size 5 rfl rfl _ (bH E 5 2) _ underlying38 rfl disk_size ?_)
  refine (QI H.dk x _ _ _ _ _ (h.below g).dk).mono ?_;rintro r J ⟨rfl,y⟩;have hN:=aG.new J (fP zPg) 58;have U:Below J.heap.size J (J.alloc (.cells (fP zPg) 58)):=(Below.refl _ _).alloc (az _) _;have kb:=y.size;have ka:=D.lt;have bx5:=(E.ext y).ext U;have rx5:=(D.ext y).ext U;have hs:=ag (ag g y) U;clear s hr R rc1 E D g
  go_wp2_with (refine aA rfl _ _ _ rfl J.heap.size (fP (dL H.dk x)) rfl rfl _ _ hN rfl psize (je _) ?_)
  intro w5 S hw;have hQ:=hs.grown hw hs.size (λk A=>by cases A;omega);have bx6:=bx5.grown hw (λe=>by have:=aM e;omega);have rx6:=rx5.grown hw (λe=>by have:=aM e;omega);clear hN U bx5 rx5 hs hw y;generalize dL H.dk x=P at S o;generalize hp4:J.heap.size=p4 at *
  clear hp4;go_upto_region 12 with (fail)
  go_loopw [59] (fun j wr => ∃k:Nat,k<=8/\j = .int .i64 k/\Below w.heap.size w wr/\aG wr w.heap.size (fB H) 45/\aG wr (w.heap.size+1) (fP zPg) 58/\aG wr p4 (fP (iH P (p.n-(I:Int)*8) k)) 58) (fun j _=>8-(intOf j).toNat)
  case atStart=>exact⟨0,by omega,rfl,hQ,bx6,rx6,by rw[show iH P (p.n-(I:Int)*8) 0=P from by ext j hj;simp[iH]];exact S⟩
  case round=>
   clear hQ bx6 rx6 S;obtain⟨k,A,rfl,g,E,D,K⟩:=hrel
   by_cases hk8:k<8
   ·have hM:(k:Int)<8:=by omega
    have s:=E.cell;unfold fB at s;rw[hS.out] at s;have R:wr.cell? ⟨Z,of+F*2,none⟩=some (.int .i64 p.n):=by obtain⟨b',o',e,hG⟩:=(hJ.out.below g) 0 _ rfl;cases e;exact hG
    have h8:IntKind.i64.wrap (8*(I:Int))=8*(I:Int):=bG _ (by omega);have h7:IntKind.i64.wrap (8*(I:Int)+(k:Int))=8*(I:Int)+(k:Int):=bG _ (by omega)
    by_cases hge:p.n<=8*(I:Int)+k
    ·have z:Hid ((fP (iH P (p.n-(I:Int)*8) k)).setIfInBounds k (.int .u8 0)=fP (iH P (p.n-(I:Int)*8) (k+1))):=ae (by rw[<-yf P _ k hk8 (by omega)];exact Bg _ k hk8 0);generalize hT:iH P (p.n-(I:Int)*8) k=T at K z;clear hT
     go_wp2_with (refine aB rfl _ _ _ rfl p4 k _ [.int .u8 0] rfl rfl rfl _ _ K (by show k+1<=8;omega) (by kernel_rfl) (λu hu=>by cases bC.1 hu;rfl) ?_)
     intro w7 px7 hl;rw[Pw.putAt_one,z.out] at px7;have hP:=g.grown hl g.size (λk A=>by cases A;omega);have bx7:=E.grown hl (λe=>by have:=aM e;omega);have M:=D.grown hl (λe=>by have:=aM e;omega);clear g E D K hl s R;go_wp2;go_roundw
     case rel=>exact⟨k+1,by omega,by go_num,hP,bx7,M,px7⟩
     case measure=>simp[intOf];omega
    have z:iH P (p.n-(I:Int)*8) k=iH P (p.n-(I:Int)*8) (k+1):=by
     ext j hj
     simp only[iH,qH]
     by_cases e:p.n-(I:Int)*8<=(j:Int)
     ·rw[if_neg (by omega),if_neg (by omega)]
     ·rw[if_neg (by omega),if_neg (by omega)]
    rw[z] at K;clear z;go_wp2;go_roundw
    case rel=>exact⟨k+1,by omega,by go_num,g,E,D,K⟩
    case measure=>simp[intOf];omega
   have hM:¬(k:Int)<8:=by omega
   rw[yJ _ _ k (by omega)] at K;have hh : Hid (bq H.ma F I=dn P (p.n-(I:Int)*8)):=ae (by rw[o.out,if_pos (by omega)]);generalize dn P (p.n-(I:Int)*8)=C at K hh
   go_wp2_with (first | (refine ay _ _ rfl p4 0 rfl rfl _ K.rd _ underlying58 rfl psize ?_) | (refine aA rfl _ _ _ rfl (w.heap.size+1) (fP C) rfl rfl _ _ D rfl psize (je _) ?_))
   intro w7 M hl;have h1:=g.grown hl g.size (λk A=>by cases A;omega);go_wp2;refine bodyPost_ret (v:=.agg (fP C)) (fA results80 _ _ (w.heap.size+1) _ _ _ rfl M underlying58 rfl psize) rfl ?_;exact⟨by rw[hh.out],h1⟩
theorem Lb (s x:Operand) (t:TypeId) (K:o.op=Op.call { callee:=Callee.builtin Builtin.append,args:=#[s,x],argTypes:=#[t,t] })
 (B:Nat) (e:TypeId) (z:Value) (n C:Nat) (S:P.underlying t=some (.slice e)) (h2:(P.info? e).map (λi=>(i.zero,i.size,i.bytes))=some (some z,n,C)) (h6:z.cells.size=n) (V:0<n)
 (g:Nat) (I:ρ s = .slice (some ⟨g,0,none⟩) 0 0) (E:Own w B e n (.slice (some ⟨g,0,none⟩) 0 0) 0 [])
 (F:Option Addr) (m c:Nat) (A:List Value) (G:ρ x = .slice F m c) (M:F=none->c=0) (hmc:m<=c) (N:A.length=m*n) (J:dZ w F A)
 (b1:m<=maxLen) (b2:m*C<=140737488355328) (hB:B<=w.heap.size) :
  ∃D w',(execOp ρ o).run P w = .ok (.value D) w'/\Below w.heap.size w w'/\Own w' B e n D m A:=by
 obtain⟨Y,R,Z,a,l⟩:=info_parts h2;rcases tK m with U|U
 ·subst U;obtain rfl:A=[]:=kS (by simpa using N);refine⟨.slice (some ⟨g,0,none⟩) 0 0,w,?_,Below.refl _ _,E⟩;cases F with
  | none=>simp[execOp,K,resolve,invoke,builtin,I,G,Builtin.append_,run_underlying S,Go.sizeOf,typeInfo,R,Builtin.lenOf,Builtin.firstCells,storeCells,Result.andThen]
  | some ad=>simp[execOp,K,resolve,invoke,builtin,I,G,Builtin.append_,run_underlying S,Go.sizeOf,typeInfo,R,Builtin.lenOf,Builtin.firstCells,storeCells,loadCells,loadCellsFrom,Result.andThen]
 obtain⟨b,off,rfl,hc⟩:=J.at (by rw[N];exact Nat.mul_pos U V);obtain⟨D,w',hr,d,k⟩:=run_append_arg_grows (P:=P) w t o.type e Y z n C S R Z a l h6 V ⟨g,0,none⟩ 0 0 [] (by simp) (λj u h=>by simp at h) ⟨b,off,none⟩ m c A N (λj u hj=>by rw[qa];exact hc j u hj) (by omega) (by omega) (by rw[dV];exact b2);have f : Own w' B e n D m A:=by have:=(Own.of_owns d).mono hB;simpa using this
 refine⟨D,w',?_,lg k,f⟩;simp[execOp,K,resolve,invoke,builtin,I,G,hr,Result.andThen]
theorem mh {l:List mQ} {J:(Nat->Bool)->(Nat->Value)->World->Prop} {D:Value->World->Prop} (f:Region.wanted o (gW ρ ops)=true) (h:∃d w',(execOp ρ o).run P w = .ok (.value d) w'/\D d w')
 (n:∀v w',D v w'->J (dO L i) (fq y i v) w') (j:∀v w',D v w'->rl l i v w') :
  if Region.wanted o (gW ρ ops)=true then dS P o ρ w (λv w'=>J (dO L i) (fq y i v) w'/\rl l i v w') else J (dO L i) (fq y i undef) w/\rl l i undef w:=by
 obtain⟨v,w',s,h2⟩:=h;exact fF v f s (n _ _ h2) (j _ _ h2)
theorem Tj {l:List mQ} {D:Value->Prop} (d:Region.wanted o (gW ρ ops)=true) (h:∃v,(execOp ρ o).run P w = .ok (.value v) w/\D v) (f:∀v,D v->rl l i v w) :
  if Region.wanted o (gW ρ ops)=true then dS P o ρ w (λv w'=>Below w.heap.size w w'/\rl l i v w') else rl l i undef w:=by
 obtain⟨v,j,h2⟩:=h;exact ak v d j (f _ h2)
theorem Hr {α:Type} (enc:α->List Value) (sz:Nat) (d:∀x,(enc x).length=sz):∀(l:List α) (k:Nat),(l.flatMap enc).take (k*sz)=(l.take k).flatMap enc
 | [],k=>by simp
 | x::l,0=>by simp
 | x::l,k+1=>by rw[nX,List.take_succ_cons,nX,Dy,JD,List.take_append,d,ji (by rw[d];omega),AU,Hr enc sz d l k]
theorem Hm {α:Type} (enc:α->List Value) (sz:Nat) (d:∀x,(enc x).length=sz):∀(l:List α) (k:Nat),(l.flatMap enc).drop (k*sz)=(l.drop k).flatMap enc
 | [],k=>by simp
 | x::l,0=>by simp
 | x::l,k+1=>by rw[nX,yt,Dy,JD,List.drop_append,d,qO (by rw[d];omega),Jf,AU,Hm enc sz d l k]
theorem Lt (l:List Cc) (c:Cc) (q:Nat) (d:q<=l.length):((l.flatMap iK).take (q*3)++iK c)++(l.flatMap iK).drop (q*3)=(l.insertIdx q c).flatMap iK:=by
 rw[Hr iK 3 iX,Hm iK 3 iX];have:∀(l:List Cc) (q:Nat),q<=l.length->l.insertIdx q c=l.take q++c::l.drop q:=by
  intro l
  induction l with
  | nil=>
   intro q d;obtain rfl:q=0:=by simpa using d
   rfl
  | cons x l ih=>intro q d;cases q with
   | zero=>rfl
   | succ q=>rw[CY,ih q (by simpa using d)];rfl
 rw[this l q d];simp[fE]
theorem ve.take {n:Nat} (h:ve w a c n vs) (f:k<=n):ve w a c k (vs.take (k*sz)):=
 ⟨bi f h.le,h.mx,h.nl,λj u d=>h.rd j u (by
  rw[mI] at d;split at d
  ·exact d
  ·cases d)⟩
theorem Sl {i:Operand} {n:Nat} (F:o.op = .slice t x none (some i) none) (D:ρ x = .slice a n c) (C:ρ i = .int .i64 (k:Int)) (G:k<=n)
 (E:P.underlying t=some (.slice e)) (z:(P.info? e).map (·.size)=some sz) (h:ve W0 a c n vs):(execOp ρ o).run P w = .ok (.value (.slice a k c)) w/\ve W0 a c k (vs.take (k*sz)):=by
 obtain⟨s,f,g⟩:∃s,P.info? e=some s/\s.size=sz:=by
  cases h:P.info? e with
  | none=>rw[h] at z;cases z
  | some s=>rw[h] at z;exact⟨s,rfl,by simpa using z⟩
 have b:(Go.sizeOf e).run P w = .ok sz w:=by simp[Go.sizeOf,typeInfo,f,go_sem,g]
 have m:=h.le;refine⟨?_,bi G h.le,h.mx,h.nl,λj u A=>h.rd j u (by
  rw[mI] at A;split at A
  ·exact A
  ·cases A)⟩
 have d:(k:Int)<=(c:Int):=by omega
 cases a with
 | none=>
  have l:=h.nl rfl;subst l;obtain rfl:k=0:=by omega
  simp[execOp,go_sem,F,D,C,E,b,d]
 | some ad=>simp[execOp,go_sem,F,D,C,E,b,d]
theorem TQ {i:Operand} {n:Nat} (E:o.op = .slice t x (some i) none none) (C:ρ x = .slice a n c) (A:ρ i = .int .i64 (k:Int)) (N:k<=n)
 (D:P.underlying t=some (.slice e)) (z:(P.info? e).map (·.size)=some sz) (I:vs.length=n*sz) (h:ve W0 a c n vs):∃v,(execOp ρ o).run P w = .ok (.value v) w/\∃a' c',v = .slice a' (n-k) c'/\ve W0 a' c' (n-k) (vs.drop (k*sz)):=by
 obtain⟨s,f,g⟩:∃s,P.info? e=some s/\s.size=sz:=by
  cases h:P.info? e with
  | none=>rw[h] at z;cases z
  | some s=>rw[h] at z;exact⟨s,rfl,by simpa using z⟩
 have d:(Go.sizeOf e).run P w = .ok sz w:=by simp[Go.sizeOf,typeInfo,f,go_sem,g]
 have q:=h.le;have p:=h.mx;have l:(k:Int)<=(n:Int):=by omega
 have j:(n:Int)<=(c:Int):=by omega
 cases a with
 | none=>
  have m:=h.nl rfl;subst m;obtain rfl:n=0:=by omega
  obtain rfl:k=0:=by omega
  obtain rfl:vs=[]:=kS (by simpa using I);exact⟨.slice none 0 0,by simp[execOp,go_sem,E,C,A,D,d],none,0,rfl,az _,aZ _,λ_=>rfl,by rw[yC];exact dZ.nil⟩
 | some ad=>
  by_cases G:k=c
  ·subst G;obtain rfl:k=n:=by omega
   refine⟨.slice (some ad) 0 0,by simp[execOp,go_sem,E,C,A,D,d],some ad,0,by rw[qh],by omega,aZ _,λe=>(by cases e),?_⟩;rw[qO (by omega)];exact dZ.nil
  refine⟨.slice (some (ad.add (k*sz))) (n-k) (c-k),?_,some (ad.add (k*sz)),c-k,rfl,by omega,by omega,λe=>(by cases e),?_⟩
  ·have J:k<c:=by omega
   simp[execOp,go_sem,E,C,A,D,d,l,j,J];exact λe=>absurd e.symm G
  intro i u F;rw[qD] at F;obtain⟨b,off,M,K⟩:=h.rd _ _ F;cases M;exact⟨b,off+k*sz,by rw[qa],by rw[nQ];exact K⟩
def zA (W0:World) (q:Nat) (l:List Cc) (c:Cc):(Nat->Bool)->(Nat->Value)->World->Prop:=λL y W=>
 Below W0.heap.size W0 W/\(L 23=true->L 15=true)/\(L 15=true->L 9=true) /\
 (L 1=true->L 9=false->∃g,y 1 = .slice (some ⟨g,0,none⟩) 0 0/\Own W W0.heap.size 122 3 (.slice (some ⟨g,0,none⟩) 0 0) 0 []) /\
 (L 9=true->L 15=false->Own W W0.heap.size 122 3 (y 9) q ((l.flatMap iK).take (q*3))) /\
 (L 14=true->L 15=false->∃a e,y 14 = .slice a 1 e/\ve W a e 1 (iK c)) /\
 (L 15=true->L 23=false->Own W W0.heap.size 122 3 (y 15) (q+1) ((l.flatMap iK).take (q*3)++iK c)) /\
 (L 23=true->Own W W0.heap.size 122 3 (y 23) (q+1+(l.length-q)) (((l.flatMap iK).take (q*3)++iK c)++(l.flatMap iK).drop (q*3)))
theorem gF {l:List Cc} {c:Cc}:∀L y W W',Below W.heap.size W W'->zA W0 q l c L y W->zA W0 q l c L y W':=
 λ_ _ _ _ hb ⟨h1,h2,h3,h4,h5,h6,h7,h8⟩=>⟨ag h1 hb,h2,h3,λa b=>by
  obtain⟨g,f,d⟩:=h4 a b;exact⟨g,f,d.below hb⟩,λa b=>(h5 a b).below hb,λa b=>by
  obtain⟨x,e,f,d⟩:=h6 a b;exact⟨x,e,f,d.below hb⟩,λa b=>(h7 a b).below hb,λa=>(h8 a).below hb⟩
theorem Wt {l:List Cc} {c:Cc} (y:Nat->Value):zA W0 q l c (λ_=>false) y W0:=by
 refine⟨Below.refl _ _,?_,?_,?_,?_,?_,?_,?_⟩<;>· intro h;cases h
theorem VY {l:List Cc} {c:Cc} (h:zA W0 q l c L y W):zA W0 q l c (dO L 1) (fq y 1 (.slice (some ⟨W.heap.size,0,none⟩) 0 0)) (W.alloc (.cells #[] 122)):=by
 obtain⟨u,h2,s,z,n,j,f,d⟩:=gF _ _ _ _ ((Below.refl _ _).alloc (az _) (.cells #[] 122)) h;exact⟨u,h2,s,λ_ _=>⟨_,rfl,Own.empty _ _ h.1.size⟩,n,j,f,d⟩
theorem Wu {l:List Cc} {c:Cc} (h:zA W0 q l c L y W) (f:Below W.heap.size W W') (d:Own W' W0.heap.size 122 3 v q ((l.flatMap iK).take (q*3))):zA W0 q l c (dO L 9) (fq y 9 v) W':=by
 obtain⟨u,h2,C,A,z,s,n,j⟩:=gF _ _ _ _ f h;exact⟨u,h2,λ_=>rfl,λ_ e=>(by cases e),λ_ _=>d,s,n,j⟩
theorem UE {l:List Cc} {c:Cc} {e:Nat} (h:zA W0 q l c L y W) (f:Below W.heap.size W W') (d:ve W' a e 1 (iK c)):zA W0 q l c (dO L 14) (fq y 14 (.slice a 1 e)) W':=by
 obtain⟨A,h2,z,u,s,C,n,j⟩:=gF _ _ _ _ f h;exact⟨A,h2,z,u,s,λ_ _=>⟨a,e,rfl,d⟩,n,j⟩
theorem Um {l:List Cc} {c:Cc} (h:zA W0 q l c L y W) (d:L 15=false) (f:L 9=true) (u:W.grownBy W' (y 9).ownBlock) (n:Own W' W0.heap.size 122 3 v (q+1) ((l.flatMap iK).take (q*3)++iK c)):zA W0 q l c (dO L 15) (fq y 15 v) W':=by
 obtain⟨j,h2,F,E,z,D,C,A⟩:=h;have a:L 23=true->False:=λe=>by rw[h2 e] at d;cases d
 exact⟨j.grown u j.size (λk s=>(z f d).ge k s),λ_=>rfl,λ_=>f,λ_ e=>(by rw[show dO L 15 9=L 9 from rfl,f] at e;cases e),λ_ e=>(by cases e),λ_ e=>(by cases e),λ_ _=>n,λe=>(a e).elim⟩
theorem Vt {l:List Cc} {c:Cc} (h:zA W0 q l c L y W) (f:L 23=false) (d:L 15=true) (z:W.grownBy W' (y 15).ownBlock) (s:Own W' W0.heap.size 122 3 v (q+1+(l.length-q)) (((l.flatMap iK).take (q*3)++iK c)++(l.flatMap iK).drop (q*3))):zA W0 q l c (dO L 23) (fq y 23 v) W':=by
 obtain⟨n,h2,j,F,E,D,A,C⟩:=h;exact⟨n.grown z n.size (λk u=>(A d f).ge k u),λ_=>d,j,λ_ e=>(by rw[show dO L 23 9=L 9 from rfl,j d] at e;cases e),λ_ e=>(by rw[show dO L 23 15=L 15 from rfl,d] at e;cases e),λ_ e=>(by rw[show dO L 23 15=L 15 from rfl,d] at e;cases e),λ_ e=>(by cases e),λ_=>s⟩
structure JG (S S' : MW):Prop where
 sp:S'.H.sp=S.H.sp
 fi:S'.H.fi=S.H.fi
 ct:S'.H.ct=S.H.ct
 dk:S'.H.dk=S.H.dk
 fl:S'.H.m.fs.length=S.H.m.fs.length
 sl:S'.H.sl.length=S.H.sl.length
theorem JG.refl (S:MW):JG S S:=⟨rfl,rfl,rfl,rfl,rfl,rfl⟩
theorem JG.trans {a b c:MW} (h:JG a b) (k:JG b c):JG a c:=⟨k.sp.trans h.sp,k.fi.trans h.fi,k.ct.trans h.ct,k.dk.trans h.dk,k.fl.trans h.fl,k.sl.trans h.sl⟩
theorem fu.rdM {S:MW} (h:fu w B b S):dZ w (some ⟨b,1,none⟩) (fB S.H).toList:=bH h.blk 1 11
theorem Bd.cas {T:List (List En)} (h:Bd m T):m.ca.length<=60:=Tz (m:=eT m T) h.rt.ca h.rt.pt.st
theorem Bd.fis {T:List (List En)} (h:Bd m T):∀f∈m.st.fs,f.b.length<=12:=BI h.rt.pt.st
def Nu (S:MW) (B b:Nat) (w:World) (ks:List (Nat × Array Value × TypeId)):(Nat->Bool)->(Nat->Value)->World->Prop:=λ_ _ W=>
 ∃a c l,fu W B b (S.lst a c l)/\MS w b S W (S.lst a c l)/\∀t∈ks,aG W t.1 t.2.1 t.2.2/\¬nL b S t.1
theorem aJ {S:MW} {ks:List (Nat × Array Value × TypeId)}:∀L y W W',Below W.heap.size W W'->Nu S B b w ks L y W->Nu S B b w ks L y W':=
 λ_ _ _ _ hb ⟨a,c,l,h1,h2,h3⟩=>⟨a,c,l,h1.below hb,h2.below hb,λt d=>⟨(h3 t d).1.ext hb,(h3 t d).2⟩⟩
theorem AP {S:MW} {ks:List (Nat × Array Value × TypeId)} {y' : Value->Nat->Value} (n:Int) (hn : -9223372036854775808<=n/\n<=9223372036854775807) (h:Nu S B b w ks L y W) {R:Value->World->Prop} (z:∀x:Int,0<=x->x<256->(x<n\/x=0)->∀W',R (.int .i64 x) W') :
  Calls Tryz.prog 32 #[.pointer (some ⟨b,0,none⟩),.int .i64 n] W λe W' => ∃v,e = .returned v/\Nu S B b w ks L' (y' v) W'/\R v W':=by
 obtain⟨a,c,l,A,h2,j⟩:=h;refine (fU _ n B b W A hn).mono ?_;rintro r W' ⟨x,a',c',u,rfl,k1,s,d,_⟩;exact⟨_,rfl,⟨a',c',u,k1,h2.trans s,λt f=>⟨s.blkN (j t f).1 (j t f).2,(j t f).2⟩⟩,z x d.1 d.2.1 d.2.2 W'⟩
theorem Ry {S:MW} {ks:List (Nat × Array Value × TypeId)} {y' : Value->Nat->Value} (h:Nu S B b w ks L y W) {R:Value->World->Prop} (s:∀P W',R (.agg (fP P)) W') :
  Calls Tryz.prog 35 #[.pointer (some ⟨b,0,none⟩)] W λe W' => ∃v,e = .returned v/\Nu S B b w ks L' (y' v) W'/\R v W':=by
 obtain⟨a,c,l,u,h2,f⟩:=h;refine (yB _ B b W u).mono ?_;rintro r W' ⟨P,a',c',n,rfl,k1,j⟩;exact⟨_,rfl,⟨a',c',n,k1,h2.trans j,λt d=>⟨j.blkN (f t d).1 (f t d).2,(f t d).2⟩⟩,s P W'⟩
theorem Tf {l:List Cc} {f i:Int} (D:q<=l.length) (n:∀d∈l.take q,BB f i d=false) (s:q=l.length\/∃c,l[q]?=some c/\BB f i c=true):sH l f i=q:=by
 unfold sH;rcases s with rfl|⟨c,C,z⟩
 ·rw[ji (az _)] at n;rw[vB.2 λd A=>n d A];rfl
 obtain⟨u,rfl⟩:=cz.1 C;rw[rD.2 ⟨u,z,λj E=>by have:=n (l[j]'(by omega)) (List.mem_take_iff_getElem.2 ⟨j,by omega,rfl⟩);rw[this];decide⟩];rfl
def Vl (S:MW) (f i:Int) (B b:Nat) (w:World) (r:Ending) (w' : World):Prop:=∃x S',r = .returned (.int .i64 x)/\fu w' B b S'/\MS w b S w' S'/\JG S S'/\S'.T=S.T/\Bd S'.H.ma S'.T/\(x = -1\/∃c∈S'.H.ca,c.f=f/\c.i=i/\c.k=x)
theorem KA (S:MW) (f i:Int) (B b:Nat) (w:World) (h:fu w B b S) (D:Bd S.H.ma S.T) (hi:qM S.H.ma.st f i) :
  Calls Tryz.prog 123 #[.pointer (some ⟨b,0,none⟩),.int .i64 f,.int .i64 i] w (Vl S f i B b w):=by
 have z7:S.H.ca.length<=60:=D.cas;have k5:=ae h.bs;have gx:=h.lt;obtain⟨F,rfl⟩:=iI hi.1.1;obtain⟨I,rfl⟩:=iI hi.2.1;have kD:F<S.H.fi.length:=by have:=hi.1.2;simp[MH.ma,cK] at this;omega
 have gy:(F:Int)<(S.H.fi.length:Int):=by omega
 have hO:=zm D.few.2.2.2.2.1 hi;have gz:(F:Int)<5:=hO.1;have gp:(I:Int)<12:=hO.2.1;obtain⟨N,hN⟩:∃N,(aS S.H.ma.st (F:Int)).n=N:=⟨_,rfl⟩;obtain⟨p,hp⟩:∃p,S.H.fi[F]?=some p:=⟨_,aH kD⟩;have ks:p.n=N:=by rw[<-hN];have:aS S.H.ma.st (F:Int)=p.fi:=kI (by show (S.H.fi.map PF.fi)[F]?=_;rw[jv,hp];rfl);rw[this];rfl
 have kY:=ae hp;have kC:=ae hN;have kr:=ae ks;have hA:=ae D;have ke:=ae hi;clear D hi hp hN ks hO;go_enter func123,ntmps123;have R:=h.blk.cell;unfold jE at R;go_upto_region 2 with (fail);clear R
 go_loopw [20] (fun k wr => ∃q:Nat,q<=S.H.ca.length/\k = .int .i64 q/\Below w.heap.size w wr/\Hid (∀d∈S.H.ca.take q,¬(d.f=(F:Int)/\d.i=(I:Int)))) (fun k _=>S.H.ca.length-(intOf k).toNat)
 case atStart=>exact⟨0,aZ _,rfl,Below.refl _ _,ae (by simp)⟩
 case round=>
  obtain⟨q,hq,rfl,hJ,hX⟩:=hrel
  by_cases J:q<S.H.ca.length
  ·obtain⟨U,M,hh,t⟩:=zy (h.ma.rd.below hJ).ca.rd q J;obtain⟨c,R⟩:∃c,S.H.ca[q]?=some c:=⟨_,aH J⟩;rw[show S.H.ca[q]=c from (cz.1 R).2] at t;have hH:(q:Int)<(S.H.ca.length:Int):=by omega
   have ky:=ae R;clear R;rw[hh]
   go_wp2_with (first | (refine ay _ _ rfl U (M+q*3) rfl rfl _ t _ underlying122 rfl cached_size ?_) | (refine aL rfl _ _ _ rfl (vV c) rfl rfl rfl cached_size (wI c) ?_))
   intro w3 hK cx3;have hE:=ag hJ hK;have hD:=cx3.cell;have gv:=cx3.lt;clear hJ hK t;unfold vV at hD
   by_cases hy:c.f=(F:Int)/\c.i=(I:Int)
   ·obtain⟨hU,kc⟩:=hy;rw[hU,kc] at hD;go_wp2;go_ret;exact⟨c.k,S,rfl,h.below hE,(MS.refl w b S).below hE,.refl _,rfl,hA.out,.inr ⟨c,bV ky.out,hU,kc,rfl⟩⟩
   have h0 : Hid (∀d∈S.H.ca.take (q+1),¬(d.f=(F:Int)/\d.i=(I:Int))):=ae λd D=>by
    rw[take_at ky.out] at D;rcases gP.1 D with D|D
    ·exact hX.out d D
    ·rw[bC.1 D];exact hy
   by_cases hU:c.f=(F:Int)
   ·have kc:¬c.i=(I:Int):=λe=>hy ⟨hU,e⟩;clear hy;go_wp2;go_roundw
    case rel=>exact⟨q+1,by omega,by go_num,hE,h0⟩
    case measure=>simp[intOf];omega
   clear hy;go_wp2;go_roundw
   case rel=>exact⟨q+1,by omega,by go_num,hE,h0⟩
   case measure=>simp[intOf];omega
  have hH:¬(q:Int)<(S.H.ca.length:Int):=by omega
  rw[ji (by omega)] at hX;have h1:=h.below hJ;have s1:=(MS.refl w b S).below hJ;have gu:=ae (h1.new (az _));have R:=h1.blk.cell;unfold jE at R
  go_wp2_with (refine ay _ _ rfl b 1 rfl rfl _ h1.rdM _ underlying45 rfl machine_size ?_)
  refine (Io S.H F I _ h1.ma.rd ⟨by omega,λf hf=>bi (hA.out.fis f hf) (by decide)⟩ (λc R=>hA.out.rt.ca.lt c R) (by have:=ke.out.1;simpa[MH.ma,cK] using this) ke.out.2).mono ?_;rintro r w2 ⟨rfl,kk⟩;have hP:Hid (dn (bq S.H.ma F I) (N-(I:Int)*8)=bq S.H.ma F I/\bq S.H.ma F I=dx S.H.ma F I):=ae (by
   have e:bq S.H.ma F I=dx S.H.ma F I:=by unfold bq dx;rw[show S.H.ma.ca.find? (λc=>decide (c.f=(F:Int))&&decide (c.i=(I:Int)))=none from EO hX.out]
   exact⟨by rw[e,<-kC.out];exact Gj _ _ _,e⟩)
  generalize bq S.H.ma F I=P at hP;have h2:=h1.below kk;have s2:=s1.below kk;clear h1 s1 R kk h hJ
  go_wp2_with (refine aL rfl _ _ _ rfl (fP P) rfl rfl rfl psize (je P) ?_)
  intro w3 hK px3;have h3:=h2.below hK;have s3:=s2.below hK;have hL:=ae (h2.new (az _));have kd:=ae s2.size;have kX:w2.heap.size<w3.heap.size:=px3.lt;have kt:B<=w2.heap.size:=bi k5.out kd.out;clear h2 s2 hK;generalize hp4:w2.heap.size=p4 at *
  clear hp4
  go_wp2_with fail
  refine (fU _ 2 B b _ h3 (by omega)).mono ?_;rintro r w4 ⟨x,a4,c4,l4,rfl,h4,s4,G,_⟩;have px4:=s4.blkN px3 hL.out;have s4:=s3.trans s4;clear h3 s3 px3 G kX;go_upto_if 46 with (fail)
  go_cut [10] (fun s10 wx => ∃(d:Bool) (a:Option Addr) (c:Nat) (l:List UInt8) (P:Page),s10 = .bool d/\fu wx B b (S.lst a c l)/\MS w b S wx (S.lst a c l)/\aG wx p4 (fP P) 58/\Hid (dn P (N-(I:Int)*8)=P/\(d=false->P=dx S.H.ma F I)))
  case first=>
   by_cases hx1:x=1
   ·subst hx1
    go_wp2_with fail
    refine (yB _ B b _ h4).mono ?_;rintro r w5 ⟨K,a5,c5,l5,rfl,h5,s5⟩;rw[oD] at h5 s5;have px5:=s5.blkN px4 hL.out;have s5:=s4.trans s5;clear h4 s4 px4 hP
    go_wp2_with (refine aA rfl _ _ _ rfl p4 (fP K) rfl rfl _ _ px5 rfl psize (je _) ?_)
    intro w6 Z kg;have h6:=h5.locT px5 (by decide) hL.out kt kg;have s6:=s5.loc kg kd.out;clear h5 s5 px5 kg;go_upto_region 11 with (fail)
    go_loopw [49] (fun j wr => ∃k:Nat,k<=8/\j = .int .i64 k/\fu wr B b (S.lst a5 c5 l5)/\MS w b S wr (S.lst a5 c5 l5)/\aG wr p4 (fP (iH K (N-(I:Int)*8) k)) 58) (fun j _=>8-(intOf j).toNat)
    case atStart=>exact⟨0,by omega,rfl,h6,s6,by rw[show iH K (N-(I:Int)*8) 0=K from by ext j hj;simp[iH]];exact Z⟩
    case round=>
     clear h6 s6 Z;obtain⟨k,hk,rfl,hm,hs,px⟩:=hrel
     by_cases hk8:k<8
     ·have k0:(k:Int)<8:=by omega
      have hD:=hm.blk.cell;unfold jE at hD;dsimp only[MW.lst] at hD;obtain⟨bf,of,kl,t⟩:=kM lh (by decide) hm.ma.rd.st.rd F kD;dsimp only[MW.lst] at kl t;rw[show S.H.fi[F]=p from (cz.1 kY.out).2] at t;rw[kl] at hD;have rc0:wr.cell? ⟨bf,of+F*2,none⟩=some (.int .i64 N):=by rw[<-kr.out];obtain⟨b',o',e,hS⟩:=t 0 _ rfl;cases e;exact hS
      clear t kl;have gt:IntKind.i64.wrap (8*(I:Int))=8*(I:Int):=bG _ (by omega);have gs:IntKind.i64.wrap (8*(I:Int)+(k:Int))=8*(I:Int)+(k:Int):=bG _ (by omega)
      by_cases hge:N<=8*(I:Int)+k
      ·have hr:Hid ((fP (iH K (N-(I:Int)*8) k)).setIfInBounds k (.int .u8 0)=fP (iH K (N-(I:Int)*8) (k+1))):=ae (by rw[<-yf K _ k hk8 (by omega)];exact Bg _ k hk8 0);generalize hT:iH K (N-(I:Int)*8) k=T at px hr;clear hT
       go_wp2_with (refine aB rfl _ _ _ rfl p4 k _ [.int .u8 0] rfl rfl rfl _ _ px (by show k+1<=8;omega) (by kernel_rfl) (λu hu=>by cases bC.1 hu;rfl) ?_)
       intro w7 px7 kf;rw[Pw.putAt_one,hr.out] at px7;have kZ:=hm.locT px (by decide) hL.out kt kf;have kW:=hs.loc kf kd.out;clear hm hs px kf hD rc0;go_wp2;go_roundw
       case rel=>exact⟨k+1,by omega,by go_num,kZ,kW,px7⟩
       case measure=>simp[intOf];omega
      have hr:iH K (N-(I:Int)*8) k=iH K (N-(I:Int)*8) (k+1):=by
       ext j hj
       simp only[iH,qH]
       by_cases e:N-(I:Int)*8<=(j:Int)
       ·rw[if_neg (by omega),if_neg (by omega)]
       ·rw[if_neg (by omega),if_neg (by omega)]
      rw[hr] at px;clear hr;go_wp2;go_roundw
      case rel=>exact⟨k+1,by omega,by go_num,hm,hs,px⟩
      case measure=>simp[intOf];omega
     have k0:¬(k:Int)<8:=by omega
     rw[yJ _ _ k (by omega)] at px;have hC:Hid (dn (dn K (N-(I:Int)*8)) (N-(I:Int)*8)=dn K (N-(I:Int)*8)):=ae (Ob _ _);generalize dn K (N-(I:Int)*8)=C at px hC;go_wp2;go_meet
     case rel=>exact⟨true,a5,c5,l5,C,rfl,hm,hs,px,ae ⟨hC.out,λh=>(by cases h)⟩⟩
   go_wp2;go_meet
   case rel=>exact⟨false,a4,c4,l4,P,rfl,h4,s4,px4,ae ⟨hP.out.1,λ_=>hP.out.2⟩⟩
  case rest=>
   obtain⟨d,a5,c5,l5,K,rfl,h5,s5,px5,kB⟩:=hcut;clear h4 s4 px4 hP;go_upto_region 16 with (fail);refine iF 9 [.v (.pointer (some ⟨b,0,none⟩)),.v (.agg (fP K)),_,.r 3 ((dC λv => ∃x:Int,v = .int .i64 x/\0<=x)),.r 4 ((dC λv => ∃u,v = .bool u)),_,_,_,.r 8 ((dC λv => ∃u,v = .agg (sU ⟨K,1,u,d,(F:Int),(I:Int)⟩)))] (Nu S B b w [(p4,fP K,58)]) aJ (λ_=>⟨a5,c5,l5,h5,s5,by simpa using ⟨px5,hL.out⟩⟩) (Qk aJ rfl (ah ?_ (Qk aJ rfl (ah ?_ (ah ?_ (Qk aJ rfl (Qk aJ rfl (Qk aJ rfl (ah ?_ (aF)))))))))) (λ_=>rfl) rfl ?_
   ·intro ρ y W L E Y o s A D;refine fT aJ (λ_ _ h=>h) A ?_;have E9:ρ (.tmp 9) = .pointer (some ⟨p4,0,none⟩):=(Y (.tmp 9) rfl).trans rfl;obtain⟨a,c,l,m1,m2,m3⟩:=A;have m3:=(m3 _ (bC.2 rfl)).1;refine ak (.agg (fP K)) (aj rfl) (dW rfl E9 m3 underlying58 rfl psize) rfl
   ·intro ρ y W L E Y o s A D;have gj:=E 72 2 rfl;have h2:y 2=_:=D 2 rfl;have EC:∀v,ρ (.const v)=v:=λv=>Y (.const v) trivial;have EF:∀f,ρ (.func f) = .func (.func f) #[] #[]:=λf=>Y (.func f) trivial;refine iZ _ _ (aj rfl) (aT rfl (EF _) func32 (by kernel_rfl) (by kernel_rfl) (by simp only[bX,bR,aY,gj,h2,EC,EF];rfl)) ?_;exact AP 2 (by omega) A λx h1 _ _ _=>⟨x,rfl,h1⟩
   ·intro ρ y W L E Y o s A D;refine fT aJ (λ_ _ h=>h) A ?_;have gi:=E 73 3 rfl;have h3:=D 3 rfl;obtain⟨x,G,_⟩:=h3;refine ak _ (aj rfl) (qm rfl (gi.trans G) (Y (.const _) trivial) (by simp[go_sem];rfl)) ⟨_,rfl⟩
   ·intro ρ y W L E Y o s A D;refine fT aJ (λ_ _ h=>h) A ?_;have gk:=E 71 1 rfl;have h1:y 1=_:=D 1 rfl;have gh:=E 74 4 rfl;have h4:=D 4 rfl;have gg:=E 75 5 rfl;have h5:y 5=_:=D 5 rfl;have gf:=E 76 6 rfl;have h6:y 6=_:=D 6 rfl;have ge:=E 77 7 rfl;have h7:y 7=_:=D 7 rfl;obtain⟨u,hu⟩:=h4;have EC:∀v,ρ (.const v)=v:=λv=>Y (.const v) trivial;refine ak (.agg (sU ⟨K,1,u,d,(F:Int),(I:Int)⟩)) (aj rfl) (by simp[execOp,go_sem,gk,h1,gh,gg,h5,gf,h6,ge,h7,EC,hu,fP,sU]) ⟨_,rfl⟩
   intro y W5 kz hG;have gr:((dC λv => ∃x:Int,v = .int .i64 x/\0<=x)).r (y 3) W5:=hG 3 (by decide);have gq:((dC λv => ∃u,v = .bool u)).r (y 4) W5:=hG 4 (by decide);have kU:((dC λv => ∃u,v = .agg (sU ⟨K,1,u,d,(F:Int),(I:Int)⟩))).r (y 8) W5:=hG 8 (by decide);clear hG;obtain⟨a6,c6,l6,h6,s6,Z⟩:=kz;have Z:=(Z _ (bC.2 rfl)).1;obtain⟨u,hu⟩:=kU;rw[hu];clear hu h5 s5 px5
   go_wp2_with fail
   refine (Fh _ _ B b _ h6 (by have:=hA.out.few.1;show S.H.m.fs.length<=1000;have e:S.H.ma.m.fs.length=S.H.m.fs.length:=rfl;omega)).mono ?_;rintro r w7 ⟨x7,a7,c7,l7,fs,rfl,h7,s7,kV⟩;rw[oD] at h7 s7;have s7:=s6.trans s7;clear h6 s6 Z;rcases kV with ⟨rfl,rfl⟩|⟨j,rfl,hj,hjr,rfl⟩
   ·go_wp2;go_ret;exact⟨-1,_,rfl,h7,s7,⟨rfl,rfl,rfl,rfl,rfl,rfl⟩,rfl,hA.out,.inl rfl⟩
   have k1 : j<S.H.m.fs.length:=hj;have kw:=ae hjr;have gw:(0:Int)<=(j:Int):=by omega
   clear hj hjr;go_upto_region 20 with (fail)
   go_loopw [13] (fun k wr => ∃q:Nat,q<=S.H.ca.length/\k = .int .i64 q/\Below w7.heap.size w7 wr/\Hid (∀d∈S.H.ca.take q,BB F I d=false)) (fun k _=>S.H.ca.length-(intOf k).toNat)
   case atStart=>exact⟨0,aZ _,rfl,Below.refl _ _,ae (by simp)⟩
   case round=>
    obtain⟨q,hq,rfl,kj,hz⟩:=hrel;have ha:=h7.below kj;have kn:IntKind.i64.wrap (100*(F:Int))=100*(F:Int):=bG _ (by omega);have km:IntKind.i64.wrap (100*(F:Int)+(I:Int))=100*(F:Int)+(I:Int):=bG _ (by omega)
    by_cases J:q<S.H.ca.length
    case' neg=>
     have hH:¬(q:Int)<(S.H.ca.length:Int):=by omega
     go_upto_region 20 with (fail);refine aN 35 [_,_,_,_,_,_,_,_,_,_,_,_,_,_,_,_,_,_,_,_,_,_,_,_,_,_,_,_,_,_,_,_,_,_,.v (.bool false)] (Gk rfl (Gk rfl (Gk rfl (Gf b 1 rfl rfl (Gf b 10 rfl rfl (Gl ha.blk (V:=.slice S.H.ac S.H.ca.length S.H.cc) (by simp[jE,MW.frs,MW.lst]) rfl rfl rfl rfl (Gn rfl rfl rfl rfl (Gb (.bool false) (by simp[go_sem,hH,J]) rfl rfl rfl rfl rfl (Gk rfl (Gk rfl (Gk rfl (Gk rfl (Gk rfl (Gk rfl (Gk rfl (Gk rfl (Gk rfl (Gk rfl (Gk rfl (Gk rfl (Gk rfl (Gk rfl (Gk rfl (Gk rfl (Gk rfl (Gk rfl (Gk rfl (Gk rfl (Gk rfl (Gk rfl (Gk rfl (Gk rfl (Gk rfl (Gk rfl (Gk rfl (aF)))))))))))))))))))))))))))))))))))) (λ_=>rfl) rfl ?_;intro y W8 hl _;have kA:Hid (sH S.H.ca F I=q):=ae (Tf hq hz.out (.inl (by omega)))
    case' pos=>
     obtain⟨U,M,hh,t⟩:=zy ha.ma.rd.ca.rd q J;have hh:S.H.ac=some ⟨U,M,none⟩:=hh;obtain⟨c,R⟩:∃c,S.H.ca[q]?=some c:=⟨_,aH J⟩;have t:dZ wr (some ⟨U,M+q*3,none⟩) (iK c):=by rw[<-(cz.1 R).2];exact t
     have hH:(q:Int)<(S.H.ca.length:Int):=by omega
     have kh:=hA.out.rt.ca.file c (bV R);have gm:=zm hA.out.few.2.2.2.2.1 kh;have gn:0<=c.f/\0<=c.i:=⟨kh.1.1,kh.2.1⟩;have kp:IntKind.i64.wrap (100*c.f)=100*c.f:=bG _ (by omega);have ko:IntKind.i64.wrap (100*c.f+c.i)=100*c.f+c.i:=bG _ (by omega);have hW:∀W,Below wr.heap.size wr W->W.cell? ⟨U,M+q*3,none⟩=some (.int .i64 c.f):=λW A=>by obtain⟨b',o',e,hS⟩:=(t.below A) 0 _ rfl;cases e;exact hS
     have hV:∀W,Below wr.heap.size wr W->W.cell? ⟨U,M+q*3+1,none⟩=some (.int .i64 c.i):=λW A=>by obtain⟨b',o',e,hS⟩:=(t.below A) 1 _ rfl;cases e;exact hS
     have hY:Hid (BB F I c=true↔¬100*c.f+c.i<100*(F:Int)+(I:Int)):=ae (by rw[yo];omega)
     by_cases hlt:100*c.f+c.i<100*(F:Int)+(I:Int)
     case pos=>
      go_upto_region 20 with (fail);refine aN 35 [_,_,_,_,_,_,_,_,_,_,_,_,_,_,_,_,_,_,_,_,_,_,_,_,_,_,_,_,_,_,_,_,_,_,.v (.bool true)] (Gk rfl (Gk rfl (Gk rfl (Gf b 1 rfl rfl (Gf b 10 rfl rfl (Gl ha.blk (V:=.slice S.H.ac S.H.ca.length S.H.cc) (by simp[jE,MW.frs,MW.lst]) rfl rfl rfl rfl (Gn rfl rfl rfl rfl (Gb (.bool true) (by simp[go_sem,hH,J]) rfl rfl rfl rfl rfl (Gk rfl (Gk rfl (Gk rfl (Gf b 1 rfl rfl (Gf b 10 rfl rfl (Gl ha.blk (V:=.slice (some ⟨U,M,none⟩) S.H.ca.length S.H.cc) (by simp[jE,MW.frs,MW.lst,hh]) rfl rfl rfl rfl (Gk rfl (Gr (.pointer (some ⟨U,M+q*3,none⟩)) (λρ y W A z=>(bP rfl (aI rfl z) (aI rfl z) J underlying42 cached_size)) rfl rfl (Gf U (M+q*3) rfl rfl (Gc (.int .i64 c.f) (λW A=>by simp[hW _ A]) rfl rfl rfl rfl (Gb (.int .i64 (100*c.f)) (by simp[go_sem,kp]) rfl rfl rfl rfl rfl (Gk rfl (Gk rfl (Gf b 1 rfl rfl (Gf b 10 rfl rfl (Gl ha.blk (V:=.slice (some ⟨U,M,none⟩) S.H.ca.length S.H.cc) (by simp[jE,MW.frs,MW.lst,hh]) rfl rfl rfl rfl (Gk rfl (Gr (.pointer (some ⟨U,M+q*3,none⟩)) (λρ y W A z=>(bP rfl (aI rfl z) (aI rfl z) J underlying42 cached_size)) rfl rfl (Gf U (M+q*3+1) rfl rfl (Gc (.int .i64 c.i) (λW A=>by simp[hV _ A]) rfl rfl rfl rfl (Gb (.int .i64 (100*c.f+c.i)) (by simp[go_sem,ko]) rfl rfl rfl rfl rfl (Gk rfl (Gb (.int .i64 (100*(F:Int))) (by simp[go_sem,kn]) rfl rfl rfl rfl rfl (Gk rfl (Gb (.int .i64 (100*(F:Int)+(I:Int))) (by simp[go_sem,km]) rfl rfl rfl rfl rfl (Gb (.bool true) (by simp[go_sem,hlt]) rfl rfl rfl rfl rfl (Gk rfl (aF)))))))))))))))))))))))))))))))))))) (λ_=>rfl) rfl ?_;intro y W8 hl _;have ku:Hid (∀d∈S.H.ca.take (q+1),BB F I d=false):=ae λd D=>by
       rw[take_at R] at D;rcases gP.1 D with D|D
       ·exact hz.out d D
       rw[bC.1 D];cases hg:BB F I c with
       | false=>rfl
       | true=>exact absurd hlt (hY.out.1 hg)
      have hZ:=ag kj hl;clear hl R hh t hW hV hY hz ha;go_wp2;go_roundw
      case rel=>exact⟨q+1,by omega,by go_num,hZ,ku⟩
      case measure=>simp[intOf];omega
     go_upto_region 20 with (fail);refine aN 35 [_,_,_,_,_,_,_,_,_,_,_,_,_,_,_,_,_,_,_,_,_,_,_,_,_,_,_,_,_,_,_,_,_,_,.v (.bool false)] (Gk rfl (Gk rfl (Gk rfl (Gf b 1 rfl rfl (Gf b 10 rfl rfl (Gl ha.blk (V:=.slice S.H.ac S.H.ca.length S.H.cc) (by simp[jE,MW.frs,MW.lst]) rfl rfl rfl rfl (Gn rfl rfl rfl rfl (Gb (.bool true) (by simp[go_sem,hH,J]) rfl rfl rfl rfl rfl (Gk rfl (Gk rfl (Gk rfl (Gf b 1 rfl rfl (Gf b 10 rfl rfl (Gl ha.blk (V:=.slice (some ⟨U,M,none⟩) S.H.ca.length S.H.cc) (by simp[jE,MW.frs,MW.lst,hh]) rfl rfl rfl rfl (Gk rfl (Gr (.pointer (some ⟨U,M+q*3,none⟩)) (λρ y W A z=>(bP rfl (aI rfl z) (aI rfl z) J underlying42 cached_size)) rfl rfl (Gf U (M+q*3) rfl rfl (Gc (.int .i64 c.f) (λW A=>by simp[hW _ A]) rfl rfl rfl rfl (Gb (.int .i64 (100*c.f)) (by simp[go_sem,kp]) rfl rfl rfl rfl rfl (Gk rfl (Gk rfl (Gf b 1 rfl rfl (Gf b 10 rfl rfl (Gl ha.blk (V:=.slice (some ⟨U,M,none⟩) S.H.ca.length S.H.cc) (by simp[jE,MW.frs,MW.lst,hh]) rfl rfl rfl rfl (Gk rfl (Gr (.pointer (some ⟨U,M+q*3,none⟩)) (λρ y W A z=>(bP rfl (aI rfl z) (aI rfl z) J underlying42 cached_size)) rfl rfl (Gf U (M+q*3+1) rfl rfl (Gc (.int .i64 c.i) (λW A=>by simp[hV _ A]) rfl rfl rfl rfl (Gb (.int .i64 (100*c.f+c.i)) (by simp[go_sem,ko]) rfl rfl rfl rfl rfl (Gk rfl (Gb (.int .i64 (100*(F:Int))) (by simp[go_sem,kn]) rfl rfl rfl rfl rfl (Gk rfl (Gb (.int .i64 (100*(F:Int)+(I:Int))) (by simp[go_sem,km]) rfl rfl rfl rfl rfl (Gb (.bool false) (by simp[go_sem,hlt]) rfl rfl rfl rfl rfl (Gk rfl (aF)))))))))))))))))))))))))))))))))))) (λ_=>rfl) rfl ?_;intro y W8 hl _;have kA:Hid (sH S.H.ca F I=q):=ae (Tf hq hz.out (.inr ⟨c,R,hY.out.2 hlt⟩));clear R hh t hW hV hY
    all_goals
     have hZ:=ag kj hl;have hI:=h7.below hZ;have s9:=s7.below hZ;clear hl ha hz;go_upto_region 22 with (fail);have sC:ve W8 S.H.ac S.H.cc S.H.ca.length (S.H.ca.flatMap iK):=hI.ma.rd.ca;have sT:=sC.take (sz:=3) hq;have k4:S.H.ca.length<=60:=z7;have tlen:((S.H.ca.flatMap iK).take (q*3)).length=q*3:=by rw[iB,jy];omega
     have dlen:((S.H.ca.flatMap iK).drop (q*3)).length=(S.H.ca.length-q)*3:=by rw[zH,jy];omega
     refine iF 27 [_,.r 1 ((dC λ_=>True)),_,_,_,_,.v (.slice S.H.ac S.H.ca.length S.H.cc),_,_,.r 9 ((dC λ_=>True)),_,_,_,.v (.agg #[.int .i64 (F:Int),.int .i64 (I:Int),.int .i64 (j:Int)]),.r 14 ((dC λ_=>True)),.r 15 ((dC λ_=>True)),_,_,_,_,.v (.slice S.H.ac S.H.ca.length S.H.cc),_,.r 22 ((dC λv => ∃a e,v = .slice a (S.H.ca.length-q) e/\ve W8 a e (S.H.ca.length-q) ((S.H.ca.flatMap iK).drop (q*3)))),.r 23 ((dC λ_=>True)),_,_,_] (zA W8 q S.H.ca ⟨(F:Int),(I:Int),(j:Int)⟩) gF (λy=>Wt y) (Qk gF rfl (ah ?_ (Qk gF rfl (Qk gF rfl (Qf gF b 1 rfl rfl (Qf gF b 10 rfl rfl (ah ?_ (Qk gF rfl (Qr gF (.slice S.H.ac q S.H.cc) (λρ y W z=>(Sl (W0:=W8) rfl (aI rfl z) (aI rfl z) hq underlying42 cached_size sC).1) rfl rfl (ah ?_ (Qk gF rfl (Qk gF rfl (Qk gF rfl (ah ?_ (ah ?_ (ah ?_ (Qk gF rfl (Qk gF rfl (Qf gF b 1 rfl rfl (Qf gF b 10 rfl rfl (ah ?_ (Qk gF rfl (ah ?_ (ah ?_ (Qk gF rfl (Qf gF b 1 rfl rfl (Qf gF b 10 rfl rfl (aF)))))))))))))))))))))))))))) (λ_=>rfl) rfl ?_
     ·intro ρ y W L E Y o s A D;refine fF (.slice (some ⟨W.heap.size,0,none⟩) 0 0) (aj rfl) ?_ (VY A) trivial;simp[execOp,go_sem]
     ·intro ρ y W L E Y o s A D;refine fT gF (λ_ _ h=>h) A ?_;have kS:=E 124 5 rfl;have h5:y 5=_:=D 5 rfl;refine ak (.slice S.H.ac S.H.ca.length S.H.cc) (aj rfl) (by simp[execOp,go_sem,kS,h5,(hI.below A.1).blk.cell,jE,MW.frs,MW.lst]) rfl
     ·intro ρ y W L E Y o s A D;have kT:=E 120 1 rfl;have h1:=D 1 rfl;have kR:=E 127 8 rfl;have h8:y 8=_:=D 8 rfl;obtain⟨g,k3,k2⟩:=A.2.2.2.1 (s 1 rfl) o;refine mh (aj rfl) (Lb _ _ _ rfl W8.heap.size 122 (.agg #[.int .i64 0,.int .i64 0,.int .i64 0]) 3 24 underlying42 cached_info rfl (by decide) g (kT.trans k3) k2 S.H.ac q S.H.cc _ (kR.trans h8) sT.nl sT.le tlen (sT.below A.1).rd (by unfold maxLen;omega) (by omega) A.1.size) (λv W1 h=>Wu A h.1 h.2) (λ_ _ _=>trivial)
     ·intro ρ y W L E Y o s A D;refine fT gF (λ_ _ h=>h) A ?_;have kP:=E 129 10 rfl;have gd:y 10=_:=D 10 rfl;have kO:=E 130 11 rfl;have gc:y 11=_:=D 11 rfl;have kN:=E 131 12 rfl;have gb:y 12=_:=D 12 rfl;refine ak (.agg #[.int .i64 (F:Int),.int .i64 (I:Int),.int .i64 (j:Int)]) (aj rfl) (by simp[execOp,go_sem,kP,gd,kO,gc,kN,gb]) rfl
     ·intro ρ y W L E Y o s A D;have kL:=E 132 13 rfl;have ga:y 13=_:=D 13 rfl;refine fF (.slice (some ⟨W.heap.size,0,none⟩) 1 1) (aj rfl) ?_ (UE (W':=W.alloc (.cells (vV ⟨(F:Int),(I:Int),(j:Int)⟩) 122)) A ((Below.refl _ _).alloc (az _) _) ⟨az _,by unfold maxLen;omega,λe=>(by cases e),dZ.new _ _ _⟩) trivial;simp[execOp,go_sem,kL.trans ga,vV]
     ·intro ρ y W L E Y o s A D;have kQ:=E 128 9 rfl;have h9:=D 9 rfl;have kK:=E 133 14 rfl;have gB:=D 14 rfl;obtain⟨a,e,hx1,hB⟩:=A.2.2.2.2.2.1 (s 14 rfl) o;have hv:=A.2.2.2.2.1 (s 9 rfl) o;refine mh (aj rfl) (qi _ _ _ rfl W8.heap.size 122 (.agg #[.int .i64 0,.int .i64 0,.int .i64 0]) 3 24 underlying42 cached_info rfl (by decide) (y 9) q _ kQ hv a 1 e _ (kK.trans hx1) hB.nl hB.le rfl hB.rd (Dl _) (by unfold maxLen;omega) (by omega) A.1.size) (λv W1 h=>Um A o (s 9 rfl) h.2.1 h.1) (λ_ _ _=>trivial)
     ·intro ρ y W L E Y o s A D;refine fT gF (λ_ _ h=>h) A ?_;have kH:=E 138 19 rfl;have k9:y 19=_:=D 19 rfl;refine ak (.slice S.H.ac S.H.ca.length S.H.cc) (aj rfl) (by simp[execOp,go_sem,kH,k9,(hI.below A.1).blk.cell,jE,MW.frs,MW.lst]) rfl
     ·intro ρ y W L E Y o s A D;refine fT gF (λ_ _ h=>h) A ?_;have kG:=E 139 20 rfl;have k8:y 20=_:=D 20 rfl;have kF:=E 140 21 rfl;have k7:y 21=_:=D 21 rfl;exact Tj (aj rfl) (TQ (W0:=W8) rfl (kG.trans k8) (kF.trans k7) hq underlying42 cached_size (jy _) sC) (λ_ h=>h)
     ·intro ρ y W L E Y o s A D;have kJ:=E 134 15 rfl;have gA:=D 15 rfl;have kE:=E 141 22 rfl;have k6:=D 22 rfl;obtain⟨a,e,hx1,hB⟩:=k6;have hv:=A.2.2.2.2.2.2.1 (s 15 rfl) o;refine mh (aj rfl) (qi _ _ _ rfl W8.heap.size 122 (.agg #[.int .i64 0,.int .i64 0,.int .i64 0]) 3 24 underlying42 cached_info rfl (by decide) (y 15) (q+1) _ kJ hv a (S.H.ca.length-q) e _ (kE.trans hx1) hB.nl hB.le dlen (hB.below A.1).rd (λu hu=>yz _ u (List.mem_of_mem_drop hu)) (by unfold maxLen;omega) (by omega) A.1.size) (λv W1 h=>Vt A o (s 15 rfl) h.2.1 h.1) (λ_ _ _=>trivial)
     intro y W9 hF kb;have gl:((dC λv => ∃a e,v = .slice a (S.H.ca.length-q) e/\ve W8 a e (S.H.ca.length-q) ((S.H.ca.flatMap iK).drop (q*3)))).r (y 22) W9:=kb 22 (by decide);clear kb;have ht:=hF.2.2.2.2.2.2.2 rfl;have hM:=hI.below hF.1;have s10:=s9.below hF.1;rw[Lt _ _ _ hq] at ht;have hQ:Hid ((S.H.ca.insertIdx q (⟨(F:Int),(I:Int),(j:Int)⟩:Cc)).length=q+1+(S.H.ca.length-q)):=ae (by rw[List.length_insertIdx_of_le_length hq];omega);obtain⟨a9,c9,kq,_⟩:=ht.rd;rw[kq] at ht ⊢;have kx:Hid (∀x,oB a9=some x->w.heap.size<=x):=ae λx G=>bi s9.size (iY ht G).1;have ht:=ht.mono (bi hI.bs (az _));clear kq hF hI s9 sT sC tlen dlen h7 s7
     go_wp2_with (refine aB rfl _ _ _ rfl b 10 _ [.slice a9 (q+1+(S.H.ca.length-q)) c9] rfl rfl rfl _ _ hM.blk (by show 10+1<=13;omega) (by kernel_rfl) (λu hu=>by cases bC.1 hu;rfl) ?_)
     intro w11 ka hR;have kv:=hM.setC (l:=S.H.ca.insertIdx q ⟨(F:Int),(I:Int),(j:Int)⟩) (by rw[hQ.out];exact ht) (by rw[hQ.out];exact ka) hR;have s12:=s10.put (H':=_) hR (.inl rfl) (λx (G:nL b { ((S.lst a7 c7 l7).frs (S.H.m.fs.set j ⟨K,1,u,d,(F:Int),(I:Int)⟩)) with H:={ ((S.lst a7 c7 l7).frs (S.H.m.fs.set j ⟨K,1,u,d,(F:Int),(I:Int)⟩)).H with ac:=a9,cc:=c9,ca:=S.H.ca.insertIdx q ⟨(F:Int),(I:Int),(j:Int)⟩ } } x)=>by
      rcases G with G|G
      ·exact .inl (.inl G)
      simp only[iQ,dw,gN,or_false] at G;rcases G with G|G|G|G|G|G|G|G|G
      ·exact .inl (.inr (by simp only[iQ,dw,gN,or_false];exact .inl G))
      ·exact .inl (.inr (by simp only[iQ,dw,gN,or_false];exact .inr (.inl G)))
      ·exact .inl (.inr (by simp only[iQ,dw,gN,or_false];exact .inr (.inr (.inl G))))
      ·exact .inl (.inr (by simp only[iQ,dw,gN,or_false];exact .inr (.inr (.inr (.inl G)))))
      ·exact .inl (.inr (by simp only[iQ,dw,gN,or_false];exact .inr (.inr (.inr (.inr (.inl G))))))
      ·exact .inl (.inr (by simp only[iQ,dw,gN,or_false];exact .inr (.inr (.inr (.inr (.inr (.inl G)))))))
      ·exact .inr (kx.out x G.symm)
      ·exact .inl (.inr (by simp only[iQ,dw,gN,or_false];exact .inr (.inr (.inr (.inr (.inr (.inr (.inr (.inl G)))))))))
      ·exact .inl (.inr (by simp only[iQ,dw,gN,or_false];exact .inr (.inr (.inr (.inr (.inr (.inr (.inr (.inr G))))))))))
     clear hM s10 ka hR ht;go_wp2;go_ret;have ki:=hA.out.cache (X:=⟨K,1,u,d,(F:Int),(I:Int)⟩) ke.out hX.out k1 kw.out ⟨rfl,rfl,rfl⟩ (by rw[kC.out];exact kB.out.1) kB.out.2;refine⟨j,_,rfl,kv,s12,⟨rfl,rfl,rfl,rfl,bK,rfl⟩,rfl,?_,.inr ⟨⟨(F:Int),(I:Int),(j:Int)⟩,(yF hq).2 (.inl rfl),rfl,rfl,rfl⟩⟩;unfold zI at ki;rw[show sH S.H.ma.ca F I=q from kA.out] at ki;exact ki
def yK (o:Option Pg):Array Value:=#[.bool o.isSome,.bool (oR o),.bool (oW o),.bool (oH o),.int .i64 (oF o),.int .i64 (oP o)]
def qN (o:Option Pg):List Value:=(yK o).toList
theorem oU (o:Option Pg):(qN o).length=6:=rfl
theorem Rz (o:Option Pg):∀u∈qN o,u.oneCell' = true:=by
 intro u d;simp only[qN,yK,dw,gN,or_false] at d;rcases d with rfl|rfl|rfl|rfl|rfl|rfl<;>rfl
theorem Sc (o:Option Pg):(yK o).all (·.oneCell')=true:=by simp[yK,Value.oneCell']
def NY (l:List (Option Pg)):Array Value:=(l.flatMap qN).toArray
theorem WF (l:List (Option Pg)):(l.flatMap qN).length=l.length*6:=Pw.flat_len qN 6 oU l
theorem zX (l:List (Option Pg)):(NY l).size=l.length*6:=by
 unfold NY;rw[List.size_toArray,WF]
theorem zC (l:List (Option Pg)):(NY l).all (·.oneCell')=true:=by
 rw[<-mE,eZ];intro u d;obtain⟨o,_,h⟩:=kT.1 (show u∈l.flatMap qN by simpa[NY] using d);exact Rz o u h
theorem UW (l:List (Option Pg)) (k:Nat) (u:k<l.length) (x:Option Pg):bI (NY l) (k*6) (qN x)=NY (l.set k x):=by
 apply mH;intro i
 by_cases z:i<l.length*6
 ·have d:i / 6<l.length:=by omega
  have b:i=i / 6*6+i%6:=by omega
  have h2:=jY qN 6 oU (l.set k x) (i / 6) (by simpa using d) (i%6) (by omega);rw[<-b] at h2;have f:=jY qN 6 oU l (i / 6) d (i%6) (by omega);rw[<-b] at f;have n:(NY (l.set k x))[i]?=((l.set k x).flatMap qN)[i]?:=by simp[NY]
  have s:(NY l)[i]?=(l.flatMap qN)[i]?:=by simp[NY]
  by_cases e:i / 6=k
  ·have c:i=k*6+i%6:=by omega
   have a:i%6<(qN x).length:=by rw[oU];omega
   have j:=putAt_in (qN x) (NY l) (k*6) (i%6) (qN x)[i%6] (by rw[oU,zX];omega) (aH a);rw[<-c] at j;rw[j,n,h2];simp only[e,Ig];exact (aH a).symm
  rw[putAt_out _ _ _ _ (by rw[oU];omega),n,h2,s,f];congr 2;rw[Dj (λh=>e h.symm)]
 ·rw[lW (by rw[size_putAt,zX];omega),lW (by rw[zX,bK];omega)]
def fC (f:Nat->Option Pg):Array Value:=NY (Oh f)
theorem ky (f:Nat->Option Pg):(fC f).size=384:=by unfold fC;rw[zX,xX]
theorem TU (f:Nat->Option Pg) (k:Nat) (d:k<64) (x:Option Pg):bI (fC f) (k*6) (qN x)=fC (λi=>if i=k then x else f i):=by
 unfold fC;rw[UW _ _ (by rw[xX];exact d),UQ]
theorem TP (cur:Array Value) (o:Nat) (a b c d e x y:Value):bI (bI cur o [a,b,c,d,e,x]) (o+5) [y]=bI cur o [a,b,c,d,e,y]:=by
 simp[bI]
theorem one_size:(Tryz.prog.info? 80).map (·.size)=some 6:=by kernel_rfl
theorem ones_size:(Tryz.prog.info? 81).map (·.size)=some 384:=by kernel_rfl
theorem sG (l:List Ar) (a:Option Addr) (c:Nat) (w:World) (h:dZ w a (l.flatMap mO)) (hl:l.length<=1000) (hok:∀x∈l,aV x=0) :
  Calls Tryz.prog 24 #[.slice a l.length c] w λr w'=>r = .returned (.agg (fC (dz l)))/\Below w.heap.size w w':=by
 go_enter func24,ntmps24;go_upto_region 2 with (fail);refine wH (λW=>Code.wp _ _ _ _ W) λW0 hy j M hE => ?_;clear hE;replace M:aG W0 (w.heap.size+1) (fC f0) 81:=M;replace j:aG W0 w.heap.size (fC f0) 81:=j;go_upto_region 3 with (fail)
 go_loopw [9] (fun i wr => ∃k:Nat,k<=l.length/\i = .int .i64 k/\Below w.heap.size w wr/\aG wr (w.heap.size+1) (fC (dz (l.take k))) 81/\aG wr w.heap.size (fC f0) 81) (fun i _=>l.length-(intOf i).toNat)
 case atStart=>exact⟨0,aZ _,rfl,hy,M,j⟩
 case round=>
  clear hy M j;obtain⟨k,C,rfl,d,t,hi⟩:=hrel
  by_cases D:k<l.length
  ·have hI:=ae (Mt D);have hA:=bL (hok l[k] (eO _));obtain⟨⟨f1,f2,f3⟩,f4,f5,f6,_,_⟩:=hA;generalize hF:dz (l.take k)=F at *
   obtain⟨b,off,rfl,c0,c1,c2,c3,c4,c5,c6⟩:=Nh (h.below d) k D;generalize l[k]=A at *
   go_upto_region 5 with (fail);refine iC (λW=>Code.wp _ _ _ _ W) λW1 J S hD => ?_;clear hD c0 c1 c2 c3 c4 c5 c6;have y:=ag d J;have hv:=t.ext J;have hs:=hi.ext J;have hK:w.heap.size+1<wr.heap.size:=t.lt;clear d t hi J;obtain⟨gx,hg⟩:∃g,g=wr.heap.size:=⟨_,rfl⟩;rw[<-hg] at S hK ⊢;clear hg;obtain⟨N,hN⟩:∃N:Nat,A.fr=(N:Int):=⟨A.fr.toNat,by omega⟩;have I:=ae hN;clear hN;have n:=S.cell;go_upto_region 6 with (fail);clear n
   go_loopw [6] (fun i wr => ∃K:Nat,A.fr<=(K:Int)/\(K:Int)<=A.en/\i = .int .i64 K/\Below w.heap.size w wr/\aG wr gx (ku A) 94/\aG wr (w.heap.size+1) (fC (JO A K F)) 81/\aG wr w.heap.size (fC f0) 81) (fun i _=>(A.en-intOf i).toNat)
   case atStart=>exact⟨N,by have:=I.out;omega,by have:=I.out;omega,by rw[I.out],y,S,by rw[<-I.out,Pv];exact hv,hs⟩
   case round=>
    clear y S hv hs;obtain⟨K,hM,hQ,rfl,d,Y,G,Z⟩:=hrel;have n:=Y.cell;unfold ku at n
    by_cases hKe:(K:Int)<A.en
    ·have hB:K<64:=by omega
     have hL:(K:Int)<64:=by omega
     have hh:Hid (K*6+6<=(fC (JO A K F)).size):=ae (by rw[ky];omega);have hP:IntKind.i64.wrap (A.ba+(K:Int))=A.ba+(K:Int):=bG _ (by omega);have hO:IntKind.i64.wrap (A.ba+(K:Int)-A.fr)=A.ba+(K:Int)-A.fr:=bG _ (by omega);have s:Hid (∀q:Int,q=(if 0<=A.fi then A.ba+(K:Int)-A.fr else 0)->bI (fC (JO A K F)) (K*6) [.bool true,.bool A.rd,.bool A.wr,.bool A.sh,.int .i64 A.fi,.int .i64 q]=fC (JO A ((K:Int)+1) F)):=ae (λq hq=>by rw[<-RN hM,<-TU _ K hB,hq];rfl);go_upto_region 9 with (refine gH rfl _ _ _ rfl (w.heap.size+1) (K*6) #[.bool true,.bool A.rd,.bool A.wr,.bool A.sh,.int .i64 A.fi,.int .i64 0] rfl rfl _ _ G hh.out one_size (by simp[Value.oneCell']) ?_);intro V R p;have m:Below w.heap.size w V:=d.grown p d.size (λk C=>by cases C;omega);have z:aG V gx (ku A) 94:=Y.grown p (λe=>by have:=aM e;omega);have hm:aG V w.heap.size (fC f0) 81:=Z.grown p (λe=>by have:=aM e;omega);clear d Y G Z p n;have n:=z.cell;unfold ku at n
     by_cases E:0<=A.fi
     ·go_upto_region 7 with (refine aB rfl _ _ _ rfl (w.heap.size+1) (K*6+5) (.int .i64 (A.ba+(K:Int)-A.fr)) [.int .i64 (A.ba+(K:Int)-A.fr)] rfl rfl rfl _ _ R (by rw[size_putAt];exact hh.out) int_size (by simp[Value.oneCell']) ?_);intro U hu o;have hp:Below w.heap.size w U:=m.grown o m.size (λk C=>by cases C;omega);have hC:aG U gx (ku A) 94:=z.grown o (λe=>by have:=aM e;omega);have hH:aG U w.heap.size (fC f0) 81:=hm.grown o (λe=>by have:=aM e;omega);have u:aG U (w.heap.size+1) (fC (JO A ((K:Int)+1) F)) 81:=by rw[<-s.out _ (by rw[if_pos E]),<-TP];exact hu
      clear m z R hm hu o n s;go_wp2;go_roundw
      case rel=>exact⟨K+1,by omega,by omega,by go_num,hp,hC,u,hH⟩
      case measure=>simp[intOf];omega
     have u:aG V (w.heap.size+1) (fC (JO A ((K:Int)+1) F)) 81:=by rw[<-s.out 0 (by rw[if_neg E])];exact R
     clear R s;go_wp2;go_roundw
     case rel=>exact⟨K+1,by omega,by omega,by go_num,m,z,u,hm⟩
     case measure=>simp[intOf];omega
    have hz:(K:Int)=A.en:=by omega
    have u:aG wr (w.heap.size+1) (fC (dz (l.take (k+1)))) 81:=by rw[hI.out,<-hz];exact G
    clear G hz;go_wp2;go_roundw
    case rel=>exact⟨k+1,by omega,by go_num,d,u,Z⟩
    case measure=>simp[intOf];omega
  have hJ:k=l.length:=by omega
  subst hJ;rw[yE] at t;have f:Hid ((fC (dz l)).size=384):=ae (ky _);have hj:Hid ((fC f0).size=384):=ae (ky _);have ht:(fC (dz l)).all (·.oneCell')=true:=zC _
  go_wp2_with (first | (refine il rfl 81 (.tmp 3) rfl (w.heap.size+1) 0 rfl (fC (dz l)).toList t.rd _ underlying81 rfl (by rw[jg,f.out];exact ones_size) ?_) | (refine aA rfl _ (.tmp 2) (.tmp 46) rfl w.heap.size (fC (dz l)) rfl rfl _ _ hi (by rw[f.out,hj.out]) (by rw[f.out];exact ones_size) ht ?_))
  intro w5 hG hw;have hn:Below w.heap.size w w5:=d.grown hw d.size (λk C=>by cases C;omega);go_wp2;refine bodyPost_ret (v:=.agg (fC (dz l))) (fA results24 _ _ w.heap.size _ _ _ rfl hG underlying81 rfl (by rw[f.out];exact ones_size)) rfl ?_;exact⟨rfl,hn⟩
theorem Gx (a:Ar) (w:World):Calls Tryz.prog 121 #[.agg (ku a)] w λr w'=>r = .returned (.int .i64 (aV a))/\Below w.heap.size w w':=by
 unfold ku;go_enter func121,ntmps121;go_upto_region 1 with (fail);refine iC (λW=>Code.wp _ _ _ _ W) λW0 b e f => ?_;clear f;have d:=e.cell
 by_cases I:a.fr<0
 ·have j:Hid (aV a=3):=ae (by unfold aV;rw[if_pos (by omega)]);go_wp2;go_ret;exact⟨aW j.out.symm,b⟩
 by_cases G:64<a.en
 ·have j:Hid (aV a=3):=ae (by unfold aV;rw[if_pos (by omega)]);go_wp2;go_ret;exact⟨aW j.out.symm,b⟩
 by_cases F:a.en<=a.fr
 ·have j:Hid (aV a=3):=ae (by unfold aV;rw[if_pos (by omega)]);go_wp2;go_ret;exact⟨aW j.out.symm,b⟩
 by_cases E:a.fi < -1
 ·have j:Hid (aV a=3):=ae (by unfold aV;rw[if_pos (by omega)]);go_wp2;go_ret;exact⟨aW j.out.symm,b⟩
 by_cases D:4<a.fi
 ·have j:Hid (aV a=3):=ae (by unfold aV;rw[if_pos (by omega)]);go_wp2;go_ret;exact⟨aW j.out.symm,b⟩
 by_cases C:a.ba<0
 ·have j:Hid (aV a=3):=ae (by unfold aV;rw[if_pos (by omega)]);go_wp2;go_ret;exact⟨aW j.out.symm,b⟩
 have c:¬(a.fr<0\/a.en<=a.fr\/64<a.en\/a.fi < -1\/5<=a.fi\/a.ba<0):=by omega
 have h:IntKind.i64.wrap (a.en-a.fr)=a.en-a.fr:=bG _ (by omega);have g:IntKind.i64.wrap (12-(a.en-a.fr))=12-(a.en-a.fr):=bG _ (by omega)
 by_cases n:a.fi = -1
 ·have u : (a.fi == -1)=true:=by simpa using n
  by_cases s:a.ba=0
  ·have z : ¬0<a.ba:=by omega
   cases f3:a.sh
   ·have j:Hid (aV a=0):=ae (by unfold aV;rw[if_neg c,if_neg (by rw[f3];simp;omega)]);have J:¬0<=a.fi:=by omega
    clear c n s;rw[f3] at d;go_wp2;go_ret;exact⟨aW j.out.symm,b⟩
   have j:Hid (aV a=7):=ae (by unfold aV;rw[if_neg c,if_pos (.inl ⟨by omega,.inr f3⟩)]);clear c n s;rw[f3] at d;go_wp2;go_ret;exact⟨aW j.out.symm,b⟩
  have j:Hid (aV a=7):=ae (by unfold aV;rw[if_neg c,if_pos (.inl ⟨by omega,.inl s⟩)]);have z : 0<a.ba:=by omega
  clear c n s;go_wp2;go_ret;exact⟨aW j.out.symm,b⟩
 have u : 0<=a.fi:=by omega
 have A : (a.fi == -1)=false:=by simpa using n
 by_cases s:12-(a.en-a.fr)<a.ba
 ·have j:Hid (aV a=7):=ae (by unfold aV;rw[if_neg c,if_pos (.inr ⟨u,s⟩)]);clear c n;go_wp2;go_ret;exact⟨aW j.out.symm,b⟩
 have j:Hid (aV a=0):=ae (by unfold aV;rw[if_neg c,if_neg (by omega)]);clear c n;go_wp2;go_ret;exact⟨aW j.out.symm,b⟩
theorem Xk (p q:Pg) (b:Bool) (h:(p==q)=b) (W:World):(Op.equalIn 10000 80 (.agg #[.bool true,.bool p.rd,.bool p.wr,.bool p.sh,.int .i64 p.fi,.int .i64 p.pg]) (.agg #[.bool true,.bool q.rd,.bool q.wr,.bool q.sh,.int .i64 q.fi,.int .i64 q.pg])).run Tryz.prog W = .ok b W:=by
 rw[<-h,WC]
 by_cases d:p.rd=q.rd
 ·by_cases f:p.wr=q.wr
  ·by_cases j:p.sh=q.sh
   ·by_cases n:(p.fi==q.fi)=true
    ·by_cases s:p.pg=q.pg<;>simp[go_sem,d,f,j,n,s]
    ·simp[go_sem,d,f,j,n]
   ·simp[go_sem,d,f,j]
  ·simp[go_sem,d,f]
 ·simp[go_sem,d]
theorem Ww (q:Pg) (x:Int) (W:World):(Op.equalIn 10000 80 (.agg #[.bool false,.bool false,.bool false,.bool false,.int .i64 0,.int .i64 x]) (.agg #[.bool true,.bool q.rd,.bool q.wr,.bool q.sh,.int .i64 q.fi,.int .i64 q.pg])).run Tryz.prog W = .ok false W:=by
 simp[go_sem]
theorem Ol (f:Nat->Option Pg) (k:Nat) (d:k<64):(fC f).extract (k*6) (k*6+6)=yK (f k):=by
 apply mH;intro i
 by_cases j:i<6
 ·rw[Array.getElem?_extract,if_pos (by rw[ky];omega)];have:=jY qN 6 oU (Oh f) k (by rw[xX];exact d) i j;have e:(fC f)[k*6+i]?=((Oh f).flatMap qN)[k*6+i]?:=by simp[fC,NY]
  have n:(Oh f)[k]'(by rw[xX];exact d)=f k:=by simp[Oh]
  rw[e,this,n];simp[qN]
 ·rw[lW (by simp;omega),lW (by simp[yK];omega)]
theorem Bc (f:Nat->Option Pg) (k j:Nat) (d:k<64) (u:Value) (h:(qN (f k))[j]?=some u) (n:j<6):(fC f)[k*6+j]?=some u:=by
 have:=jY qN 6 oU (Oh f) k (by rw[xX];exact d) j n;have e:(fC f)[k*6+j]?=((Oh f).flatMap qN)[k*6+j]?:=by simp[fC,NY]
 have s:(Oh f)[k]'(by rw[xX];exact d)=f k:=by simp[Oh]
 rw[e,this,s];exact h
theorem Dr (f:Nat->Option Pg) (k:Nat) (d:k<64) (o:Option Pg) (j:f k=o) (w:World):(Instr.index 81 (.agg (fC f)) (.int .i64 k)).run Tryz.prog w = .ok (.agg (yK o)) w:=
 xz underlying81 underlying80 rfl one_size _ k _ d (by rw[<-j];exact Ol f k d) _ w
theorem vL {a:Act} (z:o.guard=none) (t t' : TypeId) (x y:Operand) (u:o.op = .binOp .eql t x y t') (f d:Value) (n:a.eval x=f) (j:a.eval y=d) (B:Bool)
 (s:(do eqGuard .eql t x y f d;binOp .eql t f d:Sem Value).run P w = .ok (.bool B) w) (h:wpList P ops Q rest (a.put o.dst (.bool B)) w):wpList P ops Q (o::rest) a w:=
 wpList_plain z λK A=>by unfold Oper.wp;rw[qm u n j s];exact A _ _ h
theorem RI (p q:Pg) (b:Bool) (h:(p==q)=b) (x y:Operand) (W:World):(do eqGuard .eql 80 x y (.agg #[.bool true,.bool p.rd,.bool p.wr,.bool p.sh,.int .i64 p.fi,.int .i64 p.pg]) (.agg #[.bool true,.bool q.rd,.bool q.wr,.bool q.sh,.int .i64 q.fi,.int .i64 q.pg]);binOp .eql 80 (.agg #[.bool true,.bool p.rd,.bool p.wr,.bool p.sh,.int .i64 p.fi,.int .i64 p.pg]) (.agg #[.bool true,.bool q.rd,.bool q.wr,.bool q.sh,.int .i64 q.fi,.int .i64 q.pg]):Sem Value).run Tryz.prog W = .ok (.bool b) W:=by
 have d:=Xk p q b h;simp[go_sem,d]
theorem Oi (q:Pg) (z:Int) (x y:Operand) (W:World):(do eqGuard .eql 80 x y (.agg #[.bool false,.bool false,.bool false,.bool false,.int .i64 0,.int .i64 z]) (.agg #[.bool true,.bool q.rd,.bool q.wr,.bool q.sh,.int .i64 q.fi,.int .i64 q.pg]);binOp .eql 80 (.agg #[.bool false,.bool false,.bool false,.bool false,.int .i64 0,.int .i64 z]) (.agg #[.bool true,.bool q.rd,.bool q.wr,.bool q.sh,.int .i64 q.fi,.int .i64 q.pg]):Sem Value).run Tryz.prog W = .ok (.bool false) W:=by
 have d:=Ww q z;simp[go_sem,d]
theorem BM (f:Nat->Option Pg) (w:World) (hf:∀i p,f i=some p->0<=p.pg/\p.pg<=100) :
  Calls Tryz.prog 144 #[.agg (fC f)] w λr w' => ∃v,r = .returned v/\Own w' w.heap.size 94 7 v (lU f 64).length ((lU f 64).flatMap mO)/\Below w.heap.size w w':=by
 have hM:=ae (ky f);go_enter func144,ntmps144;go_upto_region 1 with (fail);refine iC (λW=>Code.wp _ _ _ _ W) λW0 h7 hJ hv => ?_;clear hv;go_upto_region 3 with (refine ay _ _ rfl _ 0 rfl rfl _ hJ.rd _ underlying81 rfl (by rw[jg,hM.out];exact ones_size) ?_)
 go_loopw [9,3] (fun i u wr => ∃k:Nat,k<=64/\i = .int .i64 k/\Below w.heap.size w wr/\aG wr w.heap.size (fC f) 81/\Own wr w.heap.size 94 7 u (lU f k).length ((lU f k).flatMap mO)) (fun i _ _=>64-(intOf i).toNat)
 case atStart=>exact⟨0,aZ _,rfl,h7,hJ,by simpa[lU] using Own.nil _ _ _ _⟩
 case round=>
  clear h7 hJ;obtain⟨k,hk,rfl,a,o,b⟩:=hrel
  by_cases hlt:k<64
  ·have kf:(k:Int)<64:=by omega
   have ki:=JC f k;cases hfk:f k with
   | none=>
    have hQ:=Dr f k hlt none hfk;unfold yK oR oW oH oF oP at hQ;have D:=ae (SH hfk);go_upto_region 5 with (fail);refine iC (λW=>Code.wp _ _ _ _ W) λZ S N hO => ?_;have F:=N.cell;have hW:=ag a S;have h6:=o.ext S;have hA:=b.below S;clear hO S a o b;rw[<-D.out] at hA;go_wp2;go_roundw
    case rel=>exact⟨k+1,by omega,by go_num,hW,h6,hA⟩
    case measure=>simp[intOf];omega
   | some p=>
    have hQ:=Dr f k hlt (some p) hfk;unfold yK oR oW oH oF oP at hQ;go_upto_region 5 with (fail);refine iC (λW=>Code.wp _ _ _ _ W) λZ S N hO => ?_;have a:=ag a S;have o:=o.ext S;have b:=b.below S;clear hO S;obtain⟨gx,h5⟩:∃g,g=wr.heap.size:=⟨_,rfl⟩;rw[<-h5] at N ⊢;clear h5;generalize hacc:lU f k=acc at *
    obtain⟨au,cu,rfl,_⟩:=b.rd;have F:=N.cell;have kh:IntKind.i64.wrap ((k:Int)+1)=(k:Int)+1:=bG _ (by omega)
    by_cases hk0:k=0
    ·have hv:mX f k p=false:=by rw[hk0];rfl
     have D:Hid (lU f (k+1)=acc++[gu k p]):=ae (by rw[Dh hfk hv,hacc]);have h4:¬(0:Int)<(k:Int):=by omega
     have h3:¬0<k:=by omega
     clear hk0 hv hfk hacc;go_upto_region 14 with (fail)
     go_wp2_with (at_builtin;refine fK rfl _ _ 71 rfl w.heap.size 94 _ 7 40 underlying71 area_info rfl (by decide) _ acc.length (acc.flatMap mO) rfl (b.alloc _) (some ⟨Z.heap.size,0,none⟩) 1 1 (mO (gu k p)) rfl (λh=>(by cases h)) (az _) rfl (dZ.new _ (ku (gu k p)) _) (λu R=>rO [gu k p] u (by simpa using R)) (by unfold maxLen;omega) (by omega) (dE a.size _) ?_)
     intro v C d l;have t:Below w.heap.size w C:=(a.alloc a.size _).grown l (dE a.size _) (b.alloc (.cells (ku (gu k p)) 94)).ge;have x:aG C w.heap.size (fC f) 81:=lD (o.alloc (.cells (ku (gu k p)) 94)) (b.alloc (.cells (ku (gu k p)) 94)) (by decide) l;have s:Own C w.heap.size 94 7 v (lU f (k+1)).length ((lU f (k+1)).flatMap mO):=by rw[D.out,fE,jf];simpa using d
     clear d l;go_wp2;go_roundw
     case rel=>exact⟨k+1,by omega,by go_num,t,x,s⟩
     case measure=>simp[intOf];omega
    obtain⟨m,hm⟩:∃m,k=m+1:=⟨k-1,by omega⟩;have h4:(0:Int)<(k:Int):=by omega
    have h3:0<k:=by omega
    have kg:IntKind.i64.wrap ((k:Int)-1)=(m:Int):=by rw[bG _ (by omega)];omega
    have h1:m<64:=by omega
    have kb:(m:Int)<64:=by omega
    have hH:∀z,mX f k z=(match f m with | some q=>qE z q==z | none=>false):=λz=>by subst hm;rfl
    have c:∀j u,(qN (f m))[j]?=some u->j<6->Z.cell? ⟨w.heap.size,m*6+j,none⟩=some u:=λj u h hj=>by rw[o.cell];exact Bc f m j h1 u h hj
    have h0:=ae hm;clear hm hk0;cases hfm:f m with
    | none=>
     have hv:mX f k p=false:=by rw[hH,hfm]
     have D:Hid (lU f (k+1)=acc++[gu k p]):=ae (by rw[Dh hfk hv,hacc]);rw[hfm] at c;have d0:=c 0 _ rfl (by decide);have d1:=c 1 _ rfl (by decide);have d2:=c 2 _ rfl (by decide);have d3:=c 3 _ rfl (by decide);have d4:=c 4 _ rfl (by decide);have d5:=c 5 _ rfl (by decide);simp only[iJ,Option.isSome,oR,oW,oH,oF,oP] at d0 d1 d2 d3 d4 d5;clear hH c hv hfk hacc;have hZ:IntKind.i64.wrap (0+1)=1:=by rw[bG _ (by omega)];try rfl
     go_upto_region 9 with (fail);refine iC (λW=>Code.wp _ _ _ _ W) λW2 I E hN => ?_;have a:=ag a I;have Y:=o.ext I;have y:=b.below I;have J:=N.ext I;have hD:gx<Z.heap.size:=N.lt;have hR:w.heap.size<Z.heap.size:=o.lt;have hS:=a.size;clear hN I o b N F d0 d1 d2 d3 d4 d5;have F:=J.cell
     by_cases V:0<=p.fi
     ·obtain⟨gy,hs⟩:∃g,g=Z.heap.size:=⟨_,rfl⟩;rw[<-hs] at E hD hR ⊢;clear hs;have hU:=E.cell;go_upto_region 11 with (refine aB rfl _ _ _ rfl gy 5 (.int .i64 (1)) [.int .i64 (1)] rfl rfl rfl _ _ E (by simp) int_size (by simp[Value.oneCell']) ?_);intro G hy K;have hx:aG G gy #[.bool false,.bool (false),.bool (false),.bool (false),.int .i64 (0),.int .i64 (1)] 80:=hy;have a:=a.grown K a.size (λk hk=>by cases hk;omega);have ht:aG G w.heap.size (fC f) 81:=Y.grown K (λe=>by have:=aM e;omega);have hz:aG G gx #[.bool true,.bool p.rd,.bool p.wr,.bool p.sh,.int .i64 p.fi,.int .i64 p.pg] 80:=J.grown K (λe=>by have:=aM e;omega);have b:=ax y E (by decide) K;have o:=ht;clear E hy Y J y K F hU ht hS;have M:=Oi p 1;go_upto_region 12 with (first | (refine ay _ _ rfl _ 0 rfl rfl _ hx.rd _ underlying80 rfl one_size ?_) | (refine ay _ _ rfl _ 0 rfl rfl _ hz.rd _ underlying80 rfl one_size ?_) | (refine vL rfl _ _ _ _ rfl _ _ rfl rfl _ (M _ _ _) ?_));clear M hx;have F:=hz.cell;go_upto_region 14 with (fail)
      go_wp2_with (at_builtin;refine fK rfl _ _ 71 rfl w.heap.size 94 _ 7 40 underlying71 area_info rfl (by decide) _ acc.length (acc.flatMap mO) rfl (b.alloc _) (some ⟨G.heap.size,0,none⟩) 1 1 (mO (gu k p)) rfl (λh=>(by cases h)) (az _) rfl (dZ.new _ (ku (gu k p)) _) (λu R=>rO [gu k p] u (by simpa using R)) (by unfold maxLen;omega) (by omega) (dE a.size _) ?_)
      intro v C d l;have t:Below w.heap.size w C:=(a.alloc a.size _).grown l (dE a.size _) (b.alloc (.cells (ku (gu k p)) 94)).ge;have x:aG C w.heap.size (fC f) 81:=lD (o.alloc (.cells (ku (gu k p)) 94)) (b.alloc (.cells (ku (gu k p)) 94)) (by decide) l;have s:Own C w.heap.size 94 7 v (lU f (k+1)).length ((lU f (k+1)).flatMap mO):=by rw[D.out,fE,jf];simpa using d
      clear d l;go_wp2;go_roundw
      case rel=>exact⟨k+1,by omega,by go_num,t,x,s⟩
      case measure=>simp[intOf];omega
     have o:=Y;have b:=y;clear Y y;have hI : ¬0<=p.fi:=V;have M:=Oi p 0;go_upto_region 12 with (first | (refine ay _ _ rfl _ 0 rfl rfl _ E.rd _ underlying80 rfl one_size ?_) | (refine ay _ _ rfl _ 0 rfl rfl _ J.rd _ underlying80 rfl one_size ?_) | (refine vL rfl _ _ _ _ rfl _ _ rfl rfl _ (M _ _ _) ?_));clear M E;have F:=J.cell;go_upto_region 14 with (fail)
     go_wp2_with (at_builtin;refine fK rfl _ _ 71 rfl w.heap.size 94 _ 7 40 underlying71 area_info rfl (by decide) _ acc.length (acc.flatMap mO) rfl (b.alloc _) (some ⟨W2.heap.size,0,none⟩) 1 1 (mO (gu k p)) rfl (λh=>(by cases h)) (az _) rfl (dZ.new _ (ku (gu k p)) _) (λu R=>rO [gu k p] u (by simpa using R)) (by unfold maxLen;omega) (by omega) (dE a.size _) ?_)
     intro v C d l;have t:Below w.heap.size w C:=(a.alloc a.size _).grown l (dE a.size _) (b.alloc (.cells (ku (gu k p)) 94)).ge;have x:aG C w.heap.size (fC f) 81:=lD (o.alloc (.cells (ku (gu k p)) 94)) (b.alloc (.cells (ku (gu k p)) 94)) (by decide) l;have s:Own C w.heap.size 94 7 v (lU f (k+1)).length ((lU f (k+1)).flatMap mO):=by rw[D.out,fE,jf];simpa using d
     clear d l;go_wp2;go_roundw
     case rel=>exact⟨k+1,by omega,by go_num,t,x,s⟩
     case measure=>simp[intOf];omega
    | some q=>
     have kj:=hf m q hfm;have hi:=hH p;rw[hfm] at hi c;simp only[] at hi;have d0:=c 0 _ rfl (by decide);have d1:=c 1 _ rfl (by decide);have d2:=c 2 _ rfl (by decide);have d3:=c 3 _ rfl (by decide);have d4:=c 4 _ rfl (by decide);have d5:=c 5 _ rfl (by decide);simp only[iJ,Option.isSome,oR,oW,oH,oF,oP] at d0 d1 d2 d3 d4 d5;generalize hBe:(qE p q==p)=B at hi;have hw:=ae hi;clear hH c hi;have kd:0<=p.fi->((⟨q.rd,q.wr,q.sh,q.fi,q.pg+1⟩:Pg)==p)=B:=λh=>by rw[<-hBe];unfold qE;rw[if_pos h]
     have ke:¬0<=p.fi->(q==p)=B:=λh=>by rw[<-hBe];unfold qE;rw[if_neg h]
     clear hBe;have hZ:IntKind.i64.wrap (q.pg+1)=(q.pg+1):=by rw[bG _ (by omega)];try rfl
     go_upto_region 9 with (fail);refine iC (λW=>Code.wp _ _ _ _ W) λW2 I E hN => ?_;have a:=ag a I;have Y:=o.ext I;have y:=b.below I;have J:=N.ext I;have hD:gx<Z.heap.size:=N.lt;have hR:w.heap.size<Z.heap.size:=o.lt;have hS:=a.size;clear hN I o b N F d0 d1 d2 d3 d4 d5;have F:=J.cell
     by_cases V:0<=p.fi
     ·obtain⟨gy,hs⟩:∃g,g=Z.heap.size:=⟨_,rfl⟩;rw[<-hs] at E hD hR ⊢;clear hs;have hU:=E.cell;go_upto_region 11 with (refine aB rfl _ _ _ rfl gy 5 (.int .i64 ((q.pg+1))) [.int .i64 ((q.pg+1))] rfl rfl rfl _ _ E (by simp) int_size (by simp[Value.oneCell']) ?_);intro G hy K;have hx:aG G gy #[.bool true,.bool (q.rd),.bool (q.wr),.bool (q.sh),.int .i64 (q.fi),.int .i64 ((q.pg+1))] 80:=hy;have a:=a.grown K a.size (λk hk=>by cases hk;omega);have ht:aG G w.heap.size (fC f) 81:=Y.grown K (λe=>by have:=aM e;omega);have hz:aG G gx #[.bool true,.bool p.rd,.bool p.wr,.bool p.sh,.int .i64 p.fi,.int .i64 p.pg] 80:=J.grown K (λe=>by have:=aM e;omega);have b:=ax y E (by decide) K;have o:=ht;clear E hy Y J y K F hU ht hS;have M:=RI ⟨q.rd,q.wr,q.sh,q.fi,q.pg+1⟩ p B (kd V);go_upto_region 12 with (first | (refine ay _ _ rfl _ 0 rfl rfl _ hx.rd _ underlying80 rfl one_size ?_) | (refine ay _ _ rfl _ 0 rfl rfl _ hz.rd _ underlying80 rfl one_size ?_) | (refine vL rfl _ _ _ _ rfl _ _ rfl rfl _ (M _ _ _) ?_));clear M hx;have F:=hz.cell
      by_cases hB:B=true
      ·subst hB;have D:=ae (Sg hfk hw.out);rw[hacc] at D;have ka:0<acc.length:=by have:=Tu f hfm;rw[<-h0.out,hacc] at this;exact this
       obtain⟨n,hC⟩:∃n,acc.length=n+1:=⟨acc.length-1,by omega⟩;have hP:n<acc.length:=by omega
       have hL:Hid (xu acc ((k:Int)+1)=acc.set n { acc[n] with en:=(k:Int)+1 }):=ae (Lh hC _);have h9:(n:Int)<(acc.length:Int):=by omega
       have h8:IntKind.i64.wrap ((acc.length:Int)-1)=(n:Int):=by rw[bG _ (by omega)];omega
       obtain⟨g,A,cap1,hK,hX,kc,⟨csg,U⟩,hF,hT,hr⟩:=Ac rG (by decide) rfl b n hP 1 (by decide) (.int .i64 ((k:Int)+1)) { acc[n] with en:=(k:Int)+1 } rfl;cases hK;have hV:=hF 1 _ rfl;have hG:w.heap.size≠g:=by intro e;subst e;unfold aG at o U;rw[o] at U;simp at U
       clear hF hC hfk hacc hfm;go_upto_region 15 with (fail);have t:Below w.heap.size w (G.setCell ⟨g,A+n*7+1,none⟩ (.int .i64 ((k:Int)+1))):=a.setCell hX _;have x:aG (G.setCell ⟨g,A+n*7+1,none⟩ (.int .i64 ((k:Int)+1))) w.heap.size (fC f) 81:=o.setCell_other _ _ (by simpa using hG);have s:Own (G.setCell ⟨g,A+n*7+1,none⟩ (.int .i64 ((k:Int)+1))) w.heap.size 94 7 (.slice (some ⟨g,A,none⟩) acc.length cu) (lU f (k+1)).length ((lU f (k+1)).flatMap mO):=by rw[D.out,hL.out,bK];exact hr
       clear hr b a o hT hV U F;go_wp2;go_roundw
       case rel=>exact⟨k+1,by omega,by go_num,t,x,s⟩
       case measure=>simp[intOf];omega
      have hY:B=false:=by simpa using hB
      subst hY;have D:Hid (lU f (k+1)=acc++[gu k p]):=ae (by rw[Dh hfk hw.out,hacc]);clear hfk hacc hfm hB;go_upto_region 14 with (fail)
      go_wp2_with (at_builtin;refine fK rfl _ _ 71 rfl w.heap.size 94 _ 7 40 underlying71 area_info rfl (by decide) _ acc.length (acc.flatMap mO) rfl (b.alloc _) (some ⟨G.heap.size,0,none⟩) 1 1 (mO (gu k p)) rfl (λh=>(by cases h)) (az _) rfl (dZ.new _ (ku (gu k p)) _) (λu R=>rO [gu k p] u (by simpa using R)) (by unfold maxLen;omega) (by omega) (dE a.size _) ?_)
      intro v C d l;have t:Below w.heap.size w C:=(a.alloc a.size _).grown l (dE a.size _) (b.alloc (.cells (ku (gu k p)) 94)).ge;have x:aG C w.heap.size (fC f) 81:=lD (o.alloc (.cells (ku (gu k p)) 94)) (b.alloc (.cells (ku (gu k p)) 94)) (by decide) l;have s:Own C w.heap.size 94 7 v (lU f (k+1)).length ((lU f (k+1)).flatMap mO):=by rw[D.out,fE,jf];simpa using d
      clear d l;go_wp2;go_roundw
      case rel=>exact⟨k+1,by omega,by go_num,t,x,s⟩
      case measure=>simp[intOf];omega
     have o:=Y;have b:=y;clear Y y;have hI : ¬0<=p.fi:=V;have M:=RI q p B (ke hI);go_upto_region 12 with (first | (refine ay _ _ rfl _ 0 rfl rfl _ E.rd _ underlying80 rfl one_size ?_) | (refine ay _ _ rfl _ 0 rfl rfl _ J.rd _ underlying80 rfl one_size ?_) | (refine vL rfl _ _ _ _ rfl _ _ rfl rfl _ (M _ _ _) ?_));clear M E;have F:=J.cell
     by_cases hB:B=true
     ·subst hB;have D:=ae (Sg hfk hw.out);rw[hacc] at D;have ka:0<acc.length:=by have:=Tu f hfm;rw[<-h0.out,hacc] at this;exact this
      obtain⟨n,hC⟩:∃n,acc.length=n+1:=⟨acc.length-1,by omega⟩;have hP:n<acc.length:=by omega
      have hL:Hid (xu acc ((k:Int)+1)=acc.set n { acc[n] with en:=(k:Int)+1 }):=ae (Lh hC _);have h9:(n:Int)<(acc.length:Int):=by omega
      have h8:IntKind.i64.wrap ((acc.length:Int)-1)=(n:Int):=by rw[bG _ (by omega)];omega
      obtain⟨g,A,cap1,hK,hX,kc,⟨csg,U⟩,hF,hT,hr⟩:=Ac rG (by decide) rfl b n hP 1 (by decide) (.int .i64 ((k:Int)+1)) { acc[n] with en:=(k:Int)+1 } rfl;cases hK;have hV:=hF 1 _ rfl;have hG:w.heap.size≠g:=by intro e;subst e;unfold aG at o U;rw[o] at U;simp at U
      clear hF hC hfk hacc hfm;go_upto_region 15 with (fail);have t:Below w.heap.size w (W2.setCell ⟨g,A+n*7+1,none⟩ (.int .i64 ((k:Int)+1))):=a.setCell hX _;have x:aG (W2.setCell ⟨g,A+n*7+1,none⟩ (.int .i64 ((k:Int)+1))) w.heap.size (fC f) 81:=o.setCell_other _ _ (by simpa using hG);have s:Own (W2.setCell ⟨g,A+n*7+1,none⟩ (.int .i64 ((k:Int)+1))) w.heap.size 94 7 (.slice (some ⟨g,A,none⟩) acc.length cu) (lU f (k+1)).length ((lU f (k+1)).flatMap mO):=by rw[D.out,hL.out,bK];exact hr
      clear hr b a o hT hV U F;go_wp2;go_roundw
      case rel=>exact⟨k+1,by omega,by go_num,t,x,s⟩
      case measure=>simp[intOf];omega
     have hY:B=false:=by simpa using hB
     subst hY;have D:Hid (lU f (k+1)=acc++[gu k p]):=ae (by rw[Dh hfk hw.out,hacc]);clear hfk hacc hfm hB;go_upto_region 14 with (fail)
     go_wp2_with (at_builtin;refine fK rfl _ _ 71 rfl w.heap.size 94 _ 7 40 underlying71 area_info rfl (by decide) _ acc.length (acc.flatMap mO) rfl (b.alloc _) (some ⟨W2.heap.size,0,none⟩) 1 1 (mO (gu k p)) rfl (λh=>(by cases h)) (az _) rfl (dZ.new _ (ku (gu k p)) _) (λu R=>rO [gu k p] u (by simpa using R)) (by unfold maxLen;omega) (by omega) (dE a.size _) ?_)
     intro v C d l;have t:Below w.heap.size w C:=(a.alloc a.size _).grown l (dE a.size _) (b.alloc (.cells (ku (gu k p)) 94)).ge;have x:aG C w.heap.size (fC f) 81:=lD (o.alloc (.cells (ku (gu k p)) 94)) (b.alloc (.cells (ku (gu k p)) 94)) (by decide) l;have s:Own C w.heap.size 94 7 v (lU f (k+1)).length ((lU f (k+1)).flatMap mO):=by rw[D.out,fE,jf];simpa using d
     clear d l;go_wp2;go_roundw
     case rel=>exact⟨k+1,by omega,by go_num,t,x,s⟩
     case measure=>simp[intOf];omega
  have h2:k=64:=by omega
  subst h2;go_wp2;go_ret;exact⟨_,rfl,b,a⟩
theorem Uk (f:Nat->Option Pg) (m:List Ar) (s:okF none m) (u:∀i:Nat,i<64->f i=onA m i) (hf' : ∀i p,f i=some p->0<=p.pg/\p.pg<=100) (w:World) :
  Calls Tryz.prog 122 #[.agg (fC f)] w λr w' => ∃v,r = .returned (.tuple #[v,.int .i64 (Ej m.length)])/\Own w' w.heap.size 94 7 v (if 16<m.length then [] else m).length ((if 16<m.length then [] else m).flatMap mO)/\Below w.heap.size w w':=by
 have c:=ae (ky f);have g:=JC f 64;rw[Ny s u] at g;go_enter func122,ntmps122;go_upto_region 1 with (fail);refine iC (λW=>Code.wp _ _ _ _ W) λW0 d e k => ?_;clear k
 go_wp2_with (refine ay _ _ rfl _ 0 rfl rfl _ e.rd _ underlying81 rfl (by rw[jg,c.out];exact ones_size) ?_)
 refine (BM f _ hf').mono ?_;rintro r w1 ⟨D,rfl,a,j⟩;rw[Ny s u] at a;have b:=ag d j;replace a:=a.mono d.size;obtain⟨C,A,rfl,_⟩:=a.rd;clear d e j
 by_cases h:16<m.length
 ·have z:(16:Int)<(m.length:Int):=by omega
  have n:Hid (Ej m.length=4):=ae (by unfold Ej;rw[if_pos h]);go_wp2;go_ret2;exact⟨.slice none 0 0,by first | (rw[n.out];done) | (rw[n.out];rfl),by first | exact Own.nil _ _ _ _ | (rw[if_pos h];exact Own.nil _ _ _ _),b⟩
 have z:¬(16:Int)<(m.length:Int):=by omega
 have n:Hid (Ej m.length=0):=ae (by unfold Ej;rw[if_neg h]);go_wp2;go_ret2;exact⟨.slice C m.length A,by first | (rw[n.out];done) | (rw[n.out];rfl),by first | exact a | (rw[if_neg h];exact a),b⟩
theorem yR {l:Operand} {n:Nat} (u:o.op = .slice t x (some l) (some h) none) (s:ρ x = .slice (some ⟨b,off,none⟩) n c) (z:ρ l = .int .i64 O) (A:ρ h = .int .i64 ((O:Int)+2))
 (d:P.underlying t=some (.slice (P.elem t))) (f:(P.info? (P.elem t)).map (·.size)=some sz) (F:O+1<n) (E:n<=c) :
  (execOp ρ o).run P w = .ok (.value (.slice (some ⟨b,off+O*sz,none⟩) 2 (c-O))) w:=by
 have a:(Go.sizeOf (P.elem t)).run P w = .ok sz w:=by
  cases hq:P.info? (P.elem t) with
  | none=>simp[hq] at f
  | some i=>
   have j:i.size=sz:=by simpa[hq] using f
   simp[Go.sizeOf,typeInfo,run_program,hq,j]
 unfold execOp;simp only[u,s,z,A,Option.map];rw[kW,run_sliceAt_slice w t _ _ _ _ d,run_slice_lh w t _ n c d .i64 .i64 O (O+2) (by omega) (by omega) (by omega),a];have D:((O:Int)+2).toNat-(O:Int).toNat=2:=by omega
 have C:((O:Int)+2).toNat-O=2:=by omega
 simp[sliced,D,C,Addr.add,show ¬c=O by omega,go_sem]
theorem Wv {l:List Ar} (h:dZ w (some ⟨b,off,none⟩) (l.flatMap mO)) {m:Nat} (f:m+1<l.length):dZ w (some ⟨b,off+m*7,none⟩) ([l[m],l[m+1]].flatMap mO):=by
 have n:=EE h m (by omega);have h2:=EE h (m+1) f;intro j u d;refine⟨b,off+m*7,rfl,?_⟩;simp only[nX,List.flatMap_nil,oV] at d
 by_cases c:j<7
 ·rw[kF (by rw[rG];exact c)] at d;exact n j u d
 rw[jU (by rw[rG];omega),rG] at d;have:=h2 _ u d;rwa [show off+(m+1)*7+(j-7)=off+m*7+j by omega] at this
theorem EK (l:List Ar) (a:Option Addr) (c:Nat) (w:World) (h:WM w a c l) :
  Calls Tryz.prog 100 #[.slice a l.length c] w λe w'=>e = .returned (.agg (Lr (bQ l)))/\Below w.heap.size w w':=by
 have hV:=h.le;have h2:=bi h.le h.mx;unfold maxLen at h2;have hE:=h.rd;go_enter func100,ntmps100;go_upto_region 1 with (fail);refine iC (λW=>Code.wp _ _ _ _ W) λW0 d n h1 => ?_;clear h1
 by_cases h16:16<l.length
 ·have hX : (16:Int)<(l.length:Int):=by omega
  have M:Hid (bQ l=(4,0)):=ae (by unfold bQ;rw[if_pos h16])
  go_wp2_with (refine aA rfl _ _ _ rfl w.heap.size #[.int .i64 (4),.int .i64 (0)] rfl rfl _ _ n rfl fau_size (nM _ _) ?_)
  intro K N q;have p:Below w.heap.size w K:=d.grown q d.size (λk J=>by cases J;exact az _);go_wp2;refine bodyPost_ret (v:=.agg #[.int .i64 (4),.int .i64 (0)]) (fA results100 _ _ w.heap.size _ _ _ rfl N underlying180 rfl fau_size) rfl ?_;exact⟨by rw[M.out];rfl,p⟩
 have hX : ¬(16:Int)<(l.length:Int):=by omega
 have h0:Hid (bQ l=jP (qy l 0) 0 (l.drop 0)):=ae (by unfold bQ;rw[if_neg h16];rfl);go_upto_region 4 with (fail)
 go_loopw [12] (fun i wr => ∃k:Nat,k<=l.length/\i = .int .i64 k/\Below w.heap.size w wr/\aG wr w.heap.size #[.int .i64 0,.int .i64 0] 180/\(∀i (h:i<l.length),i<k->aV l[i]=0)/\Hid (bQ l=jP (qy l k) k (l.drop k))) (fun i _=>l.length-(intOf i).toNat)
 case atStart=>exact⟨0,aZ _,rfl,d,n,λi _ h=>absurd h (fe _),h0⟩
 case round=>
  clear d n h0;obtain⟨k,J,rfl,d,n,hU,V⟩:=hrel;have hp:=ae hU;clear hU
  by_cases E:k<l.length
  ·obtain⟨b,off,rfl,c0,c1,c2,c3,c4,c5,c6⟩:=Nh (hE.below d) k E;have h6:(k:Int)<(l.length:Int):=by omega
   go_upto_region 6 with (fail);refine iC (λW=>Code.wp _ _ _ _ W) λW1 u hA hZ => ?_;have d:=ag d u;have n:=n.ext u;clear hZ u c0 c1 c2 c3 c4 c5 c6;obtain⟨gx,hW⟩:∃g,g=wr.heap.size:=⟨_,rfl⟩;rw[<-hW] at hA ⊢;clear hW
   go_wp2_with (refine ay _ _ rfl _ 0 rfl rfl _ hA.rd _ underlying94 rfl area_size ?_)
   refine (Gx l[k] _).mono ?_;rintro r w2 ⟨rfl,hB⟩;have j:=ag d hB;have o:=n.ext hB;have hD:=hA.ext hB;clear d n hB hA
   by_cases Y:aV l[k]=0
   ·have z:=ae Y;rw[Y];clear Y;go_upto_region 9 with (fail)
    by_cases hk0:k=0
    ·subst hk0;have h8:decide ((0:Int)<((0:Nat):Int))=false:=rfl;have hG:Hid (bQ l=jP (qy l (0+1)) (0+1) (l.drop (0+1))):=ae (by rw[V.out];exact vE E z.out rfl);go_quiet (fail);go_wp2;go_roundw
     case rel=>exact⟨0+1,by omega,by go_num,below_drewN j _,o.drewN _,mG hp.out E z.out,hG⟩
     case measure=>simp[intOf];omega
    obtain⟨m,rfl⟩:∃m,k=m+1:=⟨k-1,by omega⟩;have S:IntKind.i64.wrap (((m+1:Nat):Int)-1)=(m:Int):=by rw[bG _ (by omega)];omega
    have hq:m<l.length:=by omega
    have U:IntKind.i64.wrap (m:Int)=(m:Int):=bG _ (by omega);have hI:IntKind.i64.wrap ((m:Int)+1+1)=(m:Int)+2:=by rw[bG _ (by omega)];omega
    have hH:IntKind.i64.wrap (((m+1:Nat):Int)+1)=(m:Int)+2:=by rw[bG _ (by omega)];omega
    have hJ:=ae (Lc E);have hC:=hp.out m hq (by omega);have h4:=hE.below j;have hK:=EE h4 m hq;have hT:=Wv hE E;have hS:∀x∈[l[m],l[m+1]],aV x=0:=λx hx=>by
     rcases dw.1 hx with rfl|hx
     ·exact hC
     ·rw[bC.1 hx];exact z.out
    have hY:Hid (∀i (h:i<l.length),i<m+1+1->aV l[i]=0):=ae (mG hp.out E z.out);generalize hA1:l[m+1]=A1 at *
    generalize hA0:l[m]=A0 at *
    by_cases G:A1.fr<A0.en
    ·have M:Hid (bQ l=(2,((m+1:Nat):Int))):=ae (by rw[V.out];exact vH E (by rw[hA1];exact z.out) (by rw[hA1,hJ.out,decide_eq_true G];rfl));have hF:True:=trivial;have hm:True:=trivial;refine aN 25 [_,_,_,_,_,_,.v (.pointer (some ⟨b,off+m*7,none⟩)),_,.v (.int .i64 A0.en),_,.v (.int .i64 A1.fr),_,_,_,_,_,_,_,_,_,_,_,_,_,.v (.bool true)] (Gk rfl (Gb (.bool true) (by simp[go_sem]) rfl rfl rfl rfl rfl (Gk rfl (Gk rfl (Gk rfl (Gb (.int .i64 (m:Int)) (by simp[go_sem,S,U]) rfl rfl rfl rfl rfl (ah ?_ (Gf b (off+m*7+1) rfl rfl (ah ?_ (Gf gx 0 rfl rfl (ah ?_ (Gb (.bool true) (by simp[go_sem,G]) rfl rfl rfl rfl rfl (Gk rfl (Gk rfl (Gk rfl (Gk rfl (Gk rfl (Gk rfl (Gk rfl (Gk rfl (Gk rfl (Gk rfl (Gk rfl (Gk rfl (Gk rfl (aF)))))))))))))))))))))))))) (λ_=>rfl) rfl ?_
     ·intro ρ y W A F D C;have Z:=A 27 3 rfl;have h3:y 3=_:=C 3 rfl;have hv:=A 29 5 rfl;have h5:y 5=_:=C 5 rfl;refine ak (.pointer (some ⟨b,off+m*7,none⟩)) (bD 2 26 true true rfl rfl ((A 26 2 rfl).trans (C 2 rfl))) (by simp[execOp,go_sem,Z,h3,hv,h5,hq]) rfl
     ·intro ρ y W A F D C;have hu:=A 31 7 rfl;have h7:y 7=_:=C 7 rfl;have s:=(hK.below D).cells.2.1;refine ak (.int .i64 A0.en) (bD 2 26 true true rfl rfl ((A 26 2 rfl).trans (C 2 rfl))) (by simp[execOp,go_sem,hu,h7,s]) rfl
     ·intro ρ y W A F D C;have ht:=A 33 9 rfl;have h9:y 9=_:=C 9 rfl;have s:=(hD.ext D).cell 0;simp at s;refine ak (.int .i64 A1.fr) (bD 2 26 true true rfl rfl ((A 26 2 rfl).trans (C 2 rfl))) (by simp[execOp,go_sem,ht,h9,s]) rfl
     intro y WA t _;have d:=ag j t;have n:=o.ext t;clear j o
     go_wp2_with (refine aA rfl _ _ _ rfl w.heap.size #[.int .i64 (2),.int .i64 (((m+1:Nat):Int))] rfl rfl _ _ n rfl fau_size (nM _ _) ?_)
     intro K N q;have p:Below w.heap.size w K:=d.grown q d.size (λk J=>by cases J;exact az _);go_wp2;refine bodyPost_ret (v:=.agg #[.int .i64 (2),.int .i64 (((m+1:Nat):Int))]) (fA results100 _ _ w.heap.size _ _ _ rfl N underlying180 rfl fau_size) rfl ?_;exact⟨by rw[M.out];rfl,p⟩
    have hs:srtF 0 [A0,A1]:=⟨hC,(bL hC).1.2.1.1,z.out,by omega,trivial⟩;have hF:=KN hs;have hg:=SE hC z.out (by omega:A0.en<=A1.fr);cases hj:dM A0 A1
    ·have hm:(lU (dz [A0,A1]) 64).length=2:=by rw[hg,hj];rfl
     have hG:Hid (bQ l=jP (qy l (m+1+1)) (m+1+1) (l.drop (m+1+1))):=ae (by rw[V.out];exact vE E (by rw[hA1];exact z.out) (by rw[hA1,hJ.out,decide_eq_false G,hj];rfl));clear hg hs;refine aN 25 [_,_,_,_,_,_,.v (.pointer (some ⟨b,off+m*7,none⟩)),_,.v (.int .i64 A0.en),_,.v (.int .i64 A1.fr),_,_,_,_,_,_,_,_,.v (.agg (fC (dz [A0,A1]))),.r 20 ((nz w.heap.size 94 7 (lU (dz [A0,A1]) 64).length ((lU (dz [A0,A1]) 64).flatMap mO))),.v (.int .i64 (2)),_,_,.v (.bool false)] (Gk rfl (Gb (.bool true) (by simp[go_sem]) rfl rfl rfl rfl rfl (Gk rfl (Gk rfl (Gk rfl (Gb (.int .i64 (m:Int)) (by simp[go_sem,S,U]) rfl rfl rfl rfl rfl (ah ?_ (Gf b (off+m*7+1) rfl rfl (ah ?_ (Gf gx 0 rfl rfl (ah ?_ (Gb (.bool false) (by simp[go_sem,G]) rfl rfl rfl rfl rfl (Gk rfl (Gk rfl (Gk rfl (Gb (.int .i64 (m:Int)) (by simp[go_sem,S,U]) rfl rfl rfl rfl rfl (Gk rfl (Gb (.int .i64 ((m:Int)+2)) (by simp[go_sem,hI,hH]) rfl rfl rfl rfl rfl (Gr (.slice (some ⟨b,off+m*7,none⟩) 2 (c-m)) (λρ y W D R=>(yR rfl (aI rfl R) (aI rfl R) (aI rfl R) underlying71 area_size E hV)) rfl rfl (ah ?_ (ah ?_ (ah ?_ (Gb (.bool false) (by simp[go_sem]) rfl rfl rfl rfl rfl (Gk rfl (Gk rfl (aF)))))))))))))))))))))))))) (λ_=>rfl) rfl ?_
     ·intro ρ y W A F D C;have Z:=A 27 3 rfl;have h3:y 3=_:=C 3 rfl;have hv:=A 29 5 rfl;have h5:y 5=_:=C 5 rfl;refine ak (.pointer (some ⟨b,off+m*7,none⟩)) (bD 2 26 true true rfl rfl ((A 26 2 rfl).trans (C 2 rfl))) (by simp[execOp,go_sem,Z,h3,hv,h5,hq]) rfl
     ·intro ρ y W A F D C;have hu:=A 31 7 rfl;have h7:y 7=_:=C 7 rfl;have s:=(hK.below D).cells.2.1;refine ak (.int .i64 A0.en) (bD 2 26 true true rfl rfl ((A 26 2 rfl).trans (C 2 rfl))) (by simp[execOp,go_sem,hu,h7,s]) rfl
     ·intro ρ y W A F D C;have ht:=A 33 9 rfl;have h9:y 9=_:=C 9 rfl;have s:=(hD.ext D).cell 0;simp at s;refine ak (.int .i64 A1.fr) (bD 2 26 true true rfl rfl ((A 26 2 rfl).trans (C 2 rfl))) (by simp[execOp,go_sem,ht,h9,s]) rfl
     ·intro ρ y W A F D C;have hQ:=A 42 18 rfl;have hN:y 18=_:=C 18 rfl;have I:∀f,ρ (.func f) = .func (.func f) #[] #[]:=λf=>F (.func f) trivial;refine aO _ _ (bD 12 36 false false rfl rfl ((A 36 12 rfl).trans (C 12 rfl))) (aT rfl (I _) func24 (by kernel_rfl) (by kernel_rfl) (by simp only[bX,bR,aY,hQ,hN,I];rfl)) ?_;refine (sG [A0,A1] _ (c-m) W (hT.below (ag j D)) (by simp) hS).mono ?_;rintro r w1 ⟨rfl,u⟩;exact⟨_,rfl,u,rfl⟩
     ·intro ρ y W A F D C;have hP:=A 43 19 rfl;have hM:y 19=_:=C 19 rfl;have I:∀f,ρ (.func f) = .func (.func f) #[] #[]:=λf=>F (.func f) trivial;refine aO _ _ (bD 12 36 false false rfl rfl ((A 36 12 rfl).trans (C 12 rfl))) (aT rfl (I _) func144 (by kernel_rfl) (by kernel_rfl) (by simp only[bX,bR,aY,hP,hM,I];rfl)) ?_;refine (BM (dz [A0,A1]) W hF).mono ?_;rintro r w1 ⟨v1,rfl,ho,u⟩;exact⟨v1,rfl,u,ho.mono (bi j.size D.size)⟩
     ·intro ρ y W A F D C;have hO:=A 44 20 rfl;have hL:=C 20 rfl;obtain⟨a20,c20,hr,_⟩:=Own.rd hL;refine ak (.int .i64 (2)) (bD 12 36 false false rfl rfl ((A 36 12 rfl).trans (C 12 rfl))) (by simp[execOp,go_sem,hO,hr,hm]) rfl
     intro y WA t hc;have hR:((nz w.heap.size 94 7 (lU (dz [A0,A1]) 64).length ((lU (dz [A0,A1]) 64).flatMap mO))).r (y 20) WA:=hc 20 (by decide);clear hc;have d:=ag j t;have n:=o.ext t;clear j o S U hI hH hm;go_wp2;go_roundw
     case rel=>exact⟨m+1+1,by omega,by go_num,d,n,hY.out,hG⟩
     case measure=>simp[intOf];omega
    have hm:(lU (dz [A0,A1]) 64).length=1:=by rw[hg,hj];rfl
    have M:Hid (bQ l=(2,((m+1:Nat):Int))):=ae (by rw[V.out];exact vH E (by rw[hA1];exact z.out) (by rw[hA1,hJ.out,hj,Je]));clear hg hs;refine aN 25 [_,_,_,_,_,_,.v (.pointer (some ⟨b,off+m*7,none⟩)),_,.v (.int .i64 A0.en),_,.v (.int .i64 A1.fr),_,_,_,_,_,_,_,_,.v (.agg (fC (dz [A0,A1]))),.r 20 ((nz w.heap.size 94 7 (lU (dz [A0,A1]) 64).length ((lU (dz [A0,A1]) 64).flatMap mO))),.v (.int .i64 (1)),_,_,.v (.bool true)] (Gk rfl (Gb (.bool true) (by simp[go_sem]) rfl rfl rfl rfl rfl (Gk rfl (Gk rfl (Gk rfl (Gb (.int .i64 (m:Int)) (by simp[go_sem,S,U]) rfl rfl rfl rfl rfl (ah ?_ (Gf b (off+m*7+1) rfl rfl (ah ?_ (Gf gx 0 rfl rfl (ah ?_ (Gb (.bool false) (by simp[go_sem,G]) rfl rfl rfl rfl rfl (Gk rfl (Gk rfl (Gk rfl (Gb (.int .i64 (m:Int)) (by simp[go_sem,S,U]) rfl rfl rfl rfl rfl (Gk rfl (Gb (.int .i64 ((m:Int)+2)) (by simp[go_sem,hI,hH]) rfl rfl rfl rfl rfl (Gr (.slice (some ⟨b,off+m*7,none⟩) 2 (c-m)) (λρ y W D R=>(yR rfl (aI rfl R) (aI rfl R) (aI rfl R) underlying71 area_size E hV)) rfl rfl (ah ?_ (ah ?_ (ah ?_ (Gb (.bool true) (by simp[go_sem]) rfl rfl rfl rfl rfl (Gk rfl (Gk rfl (aF)))))))))))))))))))))))))) (λ_=>rfl) rfl ?_
    ·intro ρ y W A F D C;have Z:=A 27 3 rfl;have h3:y 3=_:=C 3 rfl;have hv:=A 29 5 rfl;have h5:y 5=_:=C 5 rfl;refine ak (.pointer (some ⟨b,off+m*7,none⟩)) (bD 2 26 true true rfl rfl ((A 26 2 rfl).trans (C 2 rfl))) (by simp[execOp,go_sem,Z,h3,hv,h5,hq]) rfl
    ·intro ρ y W A F D C;have hu:=A 31 7 rfl;have h7:y 7=_:=C 7 rfl;have s:=(hK.below D).cells.2.1;refine ak (.int .i64 A0.en) (bD 2 26 true true rfl rfl ((A 26 2 rfl).trans (C 2 rfl))) (by simp[execOp,go_sem,hu,h7,s]) rfl
    ·intro ρ y W A F D C;have ht:=A 33 9 rfl;have h9:y 9=_:=C 9 rfl;have s:=(hD.ext D).cell 0;simp at s;refine ak (.int .i64 A1.fr) (bD 2 26 true true rfl rfl ((A 26 2 rfl).trans (C 2 rfl))) (by simp[execOp,go_sem,ht,h9,s]) rfl
    ·intro ρ y W A F D C;have hQ:=A 42 18 rfl;have hN:y 18=_:=C 18 rfl;have I:∀f,ρ (.func f) = .func (.func f) #[] #[]:=λf=>F (.func f) trivial;refine aO _ _ (bD 12 36 false false rfl rfl ((A 36 12 rfl).trans (C 12 rfl))) (aT rfl (I _) func24 (by kernel_rfl) (by kernel_rfl) (by simp only[bX,bR,aY,hQ,hN,I];rfl)) ?_;refine (sG [A0,A1] _ (c-m) W (hT.below (ag j D)) (by simp) hS).mono ?_;rintro r w1 ⟨rfl,u⟩;exact⟨_,rfl,u,rfl⟩
    ·intro ρ y W A F D C;have hP:=A 43 19 rfl;have hM:y 19=_:=C 19 rfl;have I:∀f,ρ (.func f) = .func (.func f) #[] #[]:=λf=>F (.func f) trivial;refine aO _ _ (bD 12 36 false false rfl rfl ((A 36 12 rfl).trans (C 12 rfl))) (aT rfl (I _) func144 (by kernel_rfl) (by kernel_rfl) (by simp only[bX,bR,aY,hP,hM,I];rfl)) ?_;refine (BM (dz [A0,A1]) W hF).mono ?_;rintro r w1 ⟨v1,rfl,ho,u⟩;exact⟨v1,rfl,u,ho.mono (bi j.size D.size)⟩
    ·intro ρ y W A F D C;have hO:=A 44 20 rfl;have hL:=C 20 rfl;obtain⟨a20,c20,hr,_⟩:=Own.rd hL;refine ak (.int .i64 (1)) (bD 12 36 false false rfl rfl ((A 36 12 rfl).trans (C 12 rfl))) (by simp[execOp,go_sem,hO,hr,hm]) rfl
    intro y WA t hc;have hR:((nz w.heap.size 94 7 (lU (dz [A0,A1]) 64).length ((lU (dz [A0,A1]) 64).flatMap mO))).r (y 20) WA:=hc 20 (by decide);clear hc;have d:=ag j t;have n:=o.ext t;clear j o
    go_wp2_with (refine aA rfl _ _ _ rfl w.heap.size #[.int .i64 (2),.int .i64 (((m+1:Nat):Int))] rfl rfl _ _ n rfl fau_size (nM _ _) ?_)
    intro K N q;have p:Below w.heap.size w K:=d.grown q d.size (λk J=>by cases J;exact az _);go_wp2;refine bodyPost_ret (v:=.agg #[.int .i64 (2),.int .i64 (((m+1:Nat):Int))]) (fA results100 _ _ w.heap.size _ _ _ rfl N underlying180 rfl fau_size) rfl ?_;exact⟨by rw[M.out];rfl,p⟩
   have M:Hid (bQ l=(aV l[k],(k:Int))):=ae (by rw[V.out];exact HY E Y);have z : (aV l[k] != 0)=true:=by simpa using Y
   have d:=j;have n:=o;clear Y j o
   go_wp2_with (refine aA rfl _ _ _ rfl w.heap.size #[.int .i64 (aV l[k]),.int .i64 (k)] rfl rfl _ _ n rfl fau_size (nM _ _) ?_)
   intro K N q;have p:Below w.heap.size w K:=d.grown q d.size (λk J=>by cases J;exact az _);go_wp2;refine bodyPost_ret (v:=.agg #[.int .i64 (aV l[k]),.int .i64 (k)]) (fA results100 _ _ w.heap.size _ _ _ rfl N underlying180 rfl fau_size) rfl ?_;exact⟨by rw[M.out];rfl,p⟩
  have M:Hid (bQ l=(0,0)):=ae (by rw[V.out,qO (by omega)];rfl)
  go_wp2_with (refine aA rfl _ _ _ rfl w.heap.size #[.int .i64 (0),.int .i64 (0)] rfl rfl _ _ n rfl fau_size (nM _ _) ?_)
  intro K N q;have p:Below w.heap.size w K:=d.grown q d.size (λk J=>by cases J;exact az _);go_wp2;refine bodyPost_ret (v:=.agg #[.int .i64 (0),.int .i64 (0)]) (fA results100 _ _ w.heap.size _ _ _ rfl N underlying180 rfl fau_size) rfl ?_;exact⟨by rw[M.out];rfl,p⟩
theorem ents_size:(Tryz.prog.info? 69).map (·.size)=some 192:=by kernel_rfl
theorem GK {o d:Nat} (z:ys.length=xs.length) (A:o+xs.length<=cur.size) (C:∀j u,xs[j]?=some u->cur[o+j]?=some u) (D:d+vs.length<=xs.length)
 (s:∀i,i<vs.length->ys[d+i]?=vs[i]?) (n:∀i,(i<d\/d+vs.length<=i)->ys[i]?=xs[i]?):bI cur (o+d) vs=bI cur o ys:=by
 apply mH;intro m
 by_cases E:o<=m/\m<o+xs.length
 ·obtain⟨e,rfl⟩:∃e,m=o+e:=⟨m-o,by omega⟩;obtain⟨u,f⟩:∃u,ys[e]?=some u:=⟨_,aH (by omega)⟩;rw[putAt_in _ _ _ _ u (by omega) f]
  by_cases h2:d<=e/\e<d+vs.length
  ·obtain⟨i,rfl⟩:∃i,e=d+i:=⟨e-d,by omega⟩;rw[s i (by omega)] at f;rw[<-nQ];exact putAt_in _ _ _ _ u (by omega) f
  rw[n e (by omega)] at f;rw[putAt_out _ _ _ _ (by omega)];exact C _ _ f
 ·rw[putAt_out _ _ _ _ (by omega),putAt_out _ _ _ _ (by omega)]
theorem JY {o:Nat} (d:o+13<=cur.size) (s:∀j u,(pG X)[j]?=some u->cur[o+j]?=some u):bI cur (o+8) [.int .i64 (X.r+1)]=bI cur o (pG (eu X)):=
 GK (xs:=pG X) rfl d s (by show 8+1<=13;omega) (λi f=>by
  obtain rfl:i=0:=by simpa using f
  rfl) (λi f=>by
  match i,f with
  | 0,_=>rfl
  | 1,_=>rfl
  | 2,_=>rfl
  | 3,_=>rfl
  | 4,_=>rfl
  | 5,_=>rfl
  | 6,_=>rfl
  | 7,_=>rfl
  | 8,h=>exact absurd h (by show ¬(8<8\/8+1<=8);omega)
  | 9,_=>rfl
  | 10,_=>rfl
  | 11,_=>rfl
  | 12,_=>rfl
  | n+13,_=>rfl)
def Wy (S:MW) (p n:Nat) (B b:Nat) (w:World) (r:Ending) (w' : World):Prop:=∃S',r = .returned (.tuple #[])/\fu w' B b S'/\MS w b S w' S'/\JG S S'/\Bd S'.H.ma S'.T/\∀q j,¬(q=p/\j=n)->fO S'.T q j=fO S.T q j
theorem Mo (S:MW) (p n:Nat) (g:Pg) (B b:Nat) (w:World) (h:fu w B b S) (C:Bd S.H.ma S.T) (hp:p<S.H.sp.length) (E:n<64) (h0:(fO S.T p n).k=0) (hg:onA (dD S.H.ma p).ar n=some g) (hfi:g.fi<S.H.fi.length) (hpg:0<=g.pg) (hsh:g.sh=true->0<=g.fi) :
  Calls Tryz.prog 78 #[.pointer (some ⟨b,0,none⟩),.int .i64 p,.int .i64 n,.agg #[.bool true,.bool g.rd,.bool g.wr,.bool g.sh,.int .i64 g.fi,.int .i64 g.pg]] w (Wy S p n B b w):=by
 obtain⟨grd,gwr,gsh,gfi,gpg⟩:=g;dsimp only at hfi hpg hsh ⊢;obtain⟨I,rfl⟩:=iI hpg;have hm:=ae C;have kN:=ae hg;have kU:=ae h0;have gX:=ae h.bs;clear C hg h0 hpg;go_enter func78,ntmps78;go_upto_region 1 with (fail);refine iC (λW=>Code.wp _ _ _ _ W) λw1 kQ bx1 gy => ?_;have h1:=h.below kQ;have s1:=(MS.refl w b S).below kQ;have hT:=ae (h.new (az _));clear h kQ gy
 go_wp2_with fail
 refine (fU _ 4 B b _ h1 (by omega)).mono ?_;rintro r w2 ⟨x,a2,c2,l2,rfl,h2,s2,hx,_⟩;have bx2:=s2.blkN bx1 hT.out;have s2:=s1.trans s2;clear h1 s1 bx1;have hG:=bx2.cell;go_upto_region 5 with (fail)
 by_cases hx0:x=0
 ·subst hx0;go_wp2;refine bodyPost_ret (v:=.tuple #[]) (by simp[results,go_sem,results78]) rfl ?_;exact⟨_,rfl,h2,s2,⟨rfl,rfl,rfl,rfl,rfl,rfl⟩,hm.out,λ_ _ _=>rfl⟩
 have gO:(x==0)=false:=by simp[hx0]
 go_upto_region 6 with (fail)
 go_cut [44] (fun s44 wx=>s44 = .bool (decide (0<=gfi/\(gsh=true\/x=1)))/\wx=w2)
 case first=>
  by_cases hf:0<=gfi
  ·cases gsh with
   | true=>
    go_wp2;go_meet
    case rel=>exact⟨by simp[hf],rfl⟩
   | false=>
    by_cases hx1:x=1
    ·have k6:(x==1)=true:=by simp[hx1]
     have k7:=ae hx1;clear hx1;go_wp2;go_meet
     case rel=>exact⟨by rw[decide_eq_true ⟨hf,.inr k7.out⟩],rfl⟩
    have k6:(x==1)=false:=by simp[hx1]
    go_wp2;go_meet
    case rel=>exact⟨by rw[decide_eq_false (by rintro⟨_,h | h⟩;cases h;exact hx1 h)],rfl⟩
  go_wp2;go_meet
  case rel=>exact⟨by rw[decide_eq_false (λh=>by have:=h.1;omega)],rfl⟩
 case rest=>
  obtain⟨rfl,gu⟩:=hcut;subst wc
  by_cases hF:0<=gfi/\(gsh=true\/x=1)
  ·rw[decide_eq_true hF];obtain⟨F,rfl⟩:=iI hF.1;have ks:F<S.H.fi.length:=by omega
   obtain⟨p0,kE⟩:∃p0,S.H.fi[F]?=some p0:=⟨_,aH ks⟩;have gB:Hid (aS S.H.ma.st (F:Int)=p0.fi):=ae (kI (by show (S.H.fi.map PF.fi)[F]?=_;rw[jv,kE];rfl));obtain⟨bf,of,hY,kn⟩:=kM lh (by decide) h2.ma.rd.st.rd F ks;have hY:S.H.ai=some ⟨bf,of,none⟩:=hY;have kn:dZ w2 (some ⟨bf,of+F*2,none⟩) (qW p0):=by rw[<-(cz.1 kE).2];exact kn
   have rc1:∀W,Below w2.heap.size w2 W->W.cell? ⟨bf,of+F*2+1,none⟩=some (.slice p0.a p0.l.length p0.c):=λW A=>by obtain⟨b',o',e,gC⟩:=(kn.below A) 1 _ rfl;cases e;exact gC
   have gU:=ae hfi;clear kE kn hfi;go_upto_region 7 with (fail)
   by_cases hge:(p0.l.length:Int)<=(I:Int)
   ·skip;refine aN 15 [_,_,_,_,_,_,_,_,_,_,_,_,_,_,_] (Gf w.heap.size 5 rfl rfl (Gl bx2 rfl rfl rfl rfl rfl (Gk rfl (Gk rfl (Gf b 1 rfl rfl (Gf b 8 rfl rfl (Gf b 8 rfl rfl (Gl h2.blk (V:=.slice (some ⟨bf,of,none⟩) S.H.fi.length S.H.ci) (by simp[jE,MW.lst,hY]) rfl rfl rfl rfl (Gf w.heap.size 4 rfl rfl (Gl bx2 rfl rfl rfl rfl rfl (Gr (.pointer (some ⟨bf,of+F*2,none⟩)) (λρ y W A hq=>(bP rfl (aI rfl hq) (aI rfl hq) ks underlying39 file_size)) rfl rfl (Gf bf (of+F*2+1) rfl rfl (Gc (.slice p0.a p0.l.length p0.c) (λW A=>by simp[rc1 _ A]) rfl rfl rfl rfl (Gn rfl rfl rfl rfl (Gb (.bool true) (by simp[go_sem,hge]) rfl rfl rfl rfl rfl (aF)))))))))))))))) (λ_=>rfl) rfl ?_;intro y W3 hE _;have h3:=h2.below hE;have s3:=s2.below hE;have bx3:=bx2.ext hE;clear h2 s2 bx2 hG hE rc1 hY;have hG:=bx3.cell;go_wp2;refine bodyPost_ret (v:=.tuple #[]) (by simp[results,go_sem,results78]) rfl ?_;exact⟨_,rfl,h3,s3,⟨rfl,rfl,rfl,rfl,rfl,rfl⟩,hm.out,λ_ _ _=>rfl⟩
   skip;refine aN 15 [_,_,_,_,_,_,_,_,_,_,_,_,_,_,_] (Gf w.heap.size 5 rfl rfl (Gl bx2 rfl rfl rfl rfl rfl (Gk rfl (Gk rfl (Gf b 1 rfl rfl (Gf b 8 rfl rfl (Gf b 8 rfl rfl (Gl h2.blk (V:=.slice (some ⟨bf,of,none⟩) S.H.fi.length S.H.ci) (by simp[jE,MW.lst,hY]) rfl rfl rfl rfl (Gf w.heap.size 4 rfl rfl (Gl bx2 rfl rfl rfl rfl rfl (Gr (.pointer (some ⟨bf,of+F*2,none⟩)) (λρ y W A hq=>(bP rfl (aI rfl hq) (aI rfl hq) ks underlying39 file_size)) rfl rfl (Gf bf (of+F*2+1) rfl rfl (Gc (.slice p0.a p0.l.length p0.c) (λW A=>by simp[rc1 _ A]) rfl rfl rfl rfl (Gn rfl rfl rfl rfl (Gb (.bool false) (by simp[go_sem,hge]) rfl rfl rfl rfl rfl (aF)))))))))))))))) (λ_=>rfl) rfl ?_;intro y W3 hE _;have h3:=h2.below hE;have s3:=s2.below hE;have bx3:=bx2.ext hE;clear h2 s2 bx2 hG hE rc1 hY;have hG:=bx3.cell
   go_wp2_with fail
   refine (KA _ F I B b _ h3 hm.out ⟨⟨by omega,by simp[MH.ma,cK,MW.lst];omega⟩,by omega,by show (I:Int)<(aS S.H.ma.st (F:Int)).b.length;rw[gB.out];show (I:Int)<p0.l.length;omega⟩).mono ?_;rintro r w4 ⟨x3,G,rfl,h4,s4,k4,t4,bd4,gt⟩;have bx4:=s4.blkN bx3 hT.out;have gb:=ae (s4.not bx3.lt hT.out);have s4:=s3.trans s4;clear h3 s3 bx3 hG;have hG:=bx4.cell;rcases gt with rfl|⟨c,hcm,hcf,hci,rfl⟩
   ·go_wp2;refine bodyPost_ret (v:=.tuple #[]) (by simp[results,go_sem,results78]) rfl ?_;exact⟨G,rfl,h4,s4,⟨k4.sp,k4.fi,k4.ct,k4.dk,k4.fl,k4.sl⟩,bd4,λ_ _ _=>by rw[t4];rfl⟩
   have gc:=bd4.rt.ca.lt c hcm;obtain⟨f,kO⟩:=iI gc.1;have gd:f<G.H.m.fs.length:=by have e:((eT G.H.ma G.T).m.fs.length:Nat)=G.H.m.fs.length:=rfl;omega
   have kB:=ae (And.intro hcm (And.intro hcf hci));have ge:=ae kO;rw[kO];clear gc hcm hcf hci kO;obtain⟨gf,off,cap,cur,hv,kJ,hN,kp,hU,hW⟩:=h4.ma.fr.put fJ (by decide) f gd;have kS:G.H.af=some ⟨gf,off,none⟩:=(oJ hv).1;have hX:Hid (aD G.H.ma f=G.H.m.fs[f]):=ae (by unfold aD;show G.H.m.fs.getD f fr0=_;rw[aX,aH (by omega)];rfl);have ga:=bd4.rt.fewR (f:=f) gd;have gz:0<=(G.H.m.fs[f]).r/\(G.H.m.fs[f]).r<=257:=by rw[<-hX.out];exact ga
   have c8:w4.cell? ⟨gf,off+f*13+8,none⟩=some (.int .i64 (G.H.m.fs[f]).r):=hU 8 _ rfl;have hV:=ae hW;have kd:=ae hU;clear hv hW hU ga;generalize G.H.m.fs[f]=X at c8 hX gz kd;have hc:=h4.blk.cell;unfold jE at hc;rw[kS] at hc;have gV:IntKind.i64.wrap (X.r+1)=X.r+1:=bG _ (by omega);have gS:(f:Int)<(G.H.m.fs.length:Int):=by omega
   go_wp2_with (refine aB rfl _ _ _ rfl gf (off+f*13+8) _ [.int .i64 (X.r+1)] rfl rfl rfl _ _ hN (by show off+f*13+8+1<=cur.size;omega) (by kernel_rfl) (λu J=>by cases bC.1 J;rfl) ?_)
   intro w5 kP kq;rw[JY (by omega) (λj u hj=>by rw[<-hN.cell];exact kd.out j u hj)] at kP;have h5:fu w5 B b (G.frs (G.H.m.fs.set f (eu X))):=h4.putF hN kJ kq (fs:=G.H.m.fs.set f (eu X)) (by simp) (by simpa using hV.out _ _ kP);have kx:nL b G gf:=.inr (by simp only[iQ,kS];exact iL);have s5:=s4.put (H':=G.frs (G.H.m.fs.set f (eu X))) kq kx (λx hx => .inl hx);have bx5:=bx4.grown kq (λe=>gb.out (by rw[<-aM e];exact kx));have hM:Hid (¬nL b (G.frs (G.H.m.fs.set f (eu X))) w.heap.size):=gb;have kr:G.T.length=S.H.sp.length:=by have:=bd4.ok.len;rw[this];show (G.H.sp.map PS.sp).length=_;rw[fH,k4.sp];rfl
   have hD:p<G.T.length:=by omega
   have gi:∀(S' : MW),S'.T=G.T->(fI S'.T p).length=64:=λS' e=>by rw[e];exact bd4.ok.l64 (by rw[<-bd4.ok.len];exact hD)
   have kw:dD G.H.ma p=dD S.H.ma p:=by show (G.H.sp.map PS.sp).getD p zSp=(S.H.sp.map PS.sp).getD p zSp;rw[k4.sp];rfl
   have kD:p<G.H.ma.sp.length:=by show p<(G.H.sp.map PS.sp).length;rw[fH,k4.sp];exact hp
   have hH:Hid (∀u:Bool,(u=true->gsh=true/\gwr=true)->Bd (G.frs (G.H.m.fs.set f (eu X))).H.ma (setL (G.frs (G.H.m.fs.set f (eu X))).T p n ⟨1,f,u⟩)):=ae λu J=>by have h9:=bd4.cachedE (w:=u) kD E (by rw[t4];exact kU.out) kB.out.1 (by rw[kw];exact kN.out) kB.out.2 J;rw[ge.out,bA,hX.out] at h9;exact h9
   have i:Hid (JG S (G.frs (G.H.m.fs.set f (eu X)))):=ae ⟨k4.sp,k4.fi,k4.ct,k4.dk,by show (G.H.m.fs.set f (eu X)).length=_;rw[bK];exact k4.fl,k4.sl⟩;have hA:Hid (∀x q j,¬(q=p/\j=n)->fO (setL (G.frs (G.H.m.fs.set f (eu X))).T p n x) q j=fO S.T q j):=ae λx q j kb=>by show fO (setL G.T p n x) q j=_;rw[xE bd4.ok kD E,if_neg kb,t4];rfl
   have o:Hid (p<(G.frs (G.H.m.fs.set f (eu X))).T.length):=ae hD;have hI:Hid (∀S' : MW,S'.T=(G.frs (G.H.m.fs.set f (eu X))).T->(fI S'.T p).length=64):=ae gi;generalize G.frs (G.H.m.fs.set f (eu X))=S5 at *
   obtain⟨U,R,_,hl,_⟩:=fu.ent (S:=S5) h5 (p:=p) (n:=n) o.out E (hI.out _ rfl);clear kw kD hD gi kr;clear h4 s4 bx4 hG hc c8 kP kq hN kd hV kp kS;go_upto_region 11 with (fail);cases gsh with
   | true=>cases gwr with
    | true=>
     skip;refine iF 20 [_,_,_,.v (.slice (some ⟨U,R,none⟩) S5.T.length S5.cb),_,.v (.int .i64 (n:Int)),_,_,.v (.bool true),_,_,.v (.bool true),_,_,_,.r 15 ((dC λv => ∃x:Int,v = .int .i64 x/\0<=x)),.r 16 ((dC λv => ∃u,v = .bool u)),.r 17 ((dC λv => ∃u,(u=true->true=true)/\v = .bool u)),.r 18 ((dC λv => ∃u,(u=true->true=true)/\v = .agg #[.int .i64 1,.int .i64 (f:Int),.bool u])),_] (Nu S5 B b w5 [(w.heap.size,#[.bool true,.bool grd,.bool true,.bool true,.int .i64 (F:Int),.int .i64 (I:Int)],80)]) aJ (λ_=>⟨S5.al,S5.cl,S5.l,h5,MS.refl _ _ _,by simpa using ⟨bx5,hM.out⟩⟩) (Qk aJ rfl (Qk aJ rfl (Qf aJ b 12 rfl rfl (ah ?_ (Qk aJ rfl (Qk aJ rfl (Qk aJ rfl (Qf aJ w.heap.size 3 rfl rfl (ah ?_ (Qk aJ rfl (Qf aJ w.heap.size 2 rfl rfl (ah ?_ (Qk aJ rfl (Qk aJ rfl (Qk aJ rfl (ah ?_ (ah ?_ (ah ?_ (ah ?_ (Qr aJ (.pointer (some ⟨U,R+p*192,none⟩)) (λρ y W hq=>(bP rfl (aI rfl hq) (aI rfl hq) o.out underlying96 ents_size)) rfl rfl (aF))))))))))))))))))))) (λ_=>rfl) rfl ?_
     ·intro ρ y W L D E s z A C;refine fT aJ (λ_ _ h=>h) A ?_;have kk:=D 94 2 rfl;have h2:y 2=_:=C 2 rfl;obtain⟨a,c,l,m1,m2,K⟩:=A;refine ak (.slice (some ⟨U,R,none⟩) S5.T.length S5.cb) (aj rfl) (by simp[execOp,go_sem,kk,h2,m1.blk.cell,jE,MW.lst,hl]) rfl
     ·intro ρ y W L D E s z A C;refine fT aJ (λ_ _ h=>h) A ?_;have ki:=D 99 7 rfl;have Z:y 7=_:=C 7 rfl;obtain⟨a,c,l,m1,m2,K⟩:=A;have K:=(K _ (bC.2 rfl)).1;refine ak (.bool true) (aj rfl) (by simp[execOp,go_sem,ki,Z,K.cell]) rfl
     ·intro ρ y W L D E s z A C;refine fT aJ (λ_ _ h=>h) A ?_;have km:=D 102 10 rfl;have kh:y 10=_:=C 10 rfl;obtain⟨a,c,l,m1,m2,K⟩:=A;have K:=(K _ (bC.2 rfl)).1;refine ak (.bool true) (bD 9 101 true true rfl rfl ((D 101 9 rfl).trans (C 9 rfl))) (by simp[execOp,go_sem,km,kh,K.cell]) rfl
     ·intro ρ y W L D E s z A C;have gp:=D 106 14 rfl;have gG:y 14=_:=C 14 rfl;have EC:∀v,ρ (.const v)=v:=λv=>E (.const v) trivial;have EF:∀f,ρ (.func f) = .func (.func f) #[] #[]:=λf=>E (.func f) trivial;refine iZ _ _ (bD 13 105 true true rfl rfl ((D 105 13 rfl).trans (C 13 rfl))) (aT rfl (EF _) func32 (by kernel_rfl) (by kernel_rfl) (by simp only[bX,bR,aY,gp,gG,EC,EF];rfl)) ?_;exact AP 2 (by omega) A λx h1 _ _ _=>⟨x,rfl,h1⟩
     ·intro ρ y W L D E s z A C;refine fT aJ (λ_ _ h=>h) A ?_;have gn:=D 107 15 rfl;have gF:=C 15 rfl;obtain⟨x,hx,_⟩:=gF;refine ak _ (bD 13 105 true true rfl rfl ((D 105 13 rfl).trans (C 13 rfl))) (qm rfl (gn.trans hx) (E (.const _) trivial) (by simp[go_sem];rfl)) ⟨_,rfl⟩
     ·intro ρ y W L D E s z A C;refine fT aJ (λ_ _ h=>h) A ?_;have hR:=D 105 13 rfl;have hJ:y 13=_:=C 13 rfl;have kl:=D 108 16 rfl;have kT:=C 16 rfl;obtain⟨u,J⟩:=kT;refine ak (.bool u) (aj rfl) (qB rfl (hR.trans hJ) (by simpa using kl.trans J)) ⟨_,λ_=>rfl,rfl⟩
     ·intro ρ y W L D E s z A C;refine fT aJ (λ_ _ h=>h) A ?_;have kj:=D 98 6 rfl;have Y:y 6=_:=C 6 rfl;have hQ:=D 109 17 rfl;have kg:=C 17 rfl;obtain⟨u,hr,J⟩:=kg;have EC:∀v,ρ (.const v)=v:=λv=>E (.const v) trivial;refine ak (.agg #[.int .i64 1,.int .i64 (f:Int),.bool u]) (aj rfl) (by simp[execOp,go_sem,kj,Y,hQ,EC,J]) ⟨u,hr,rfl⟩
     intro y W6 hB d;have gL:((dC λv => ∃x:Int,v = .int .i64 x/\0<=x)).r (y 15) W6:=d 15 (by decide);have gK:((dC λv => ∃u,v = .bool u)).r (y 16) W6:=d 16 (by decide);have kt:((dC λv => ∃u,(u=true->true=true)/\v = .bool u)).r (y 17) W6:=d 17 (by decide);have hK:((dC λv => ∃u,(u=true->true=true)/\v = .agg #[.int .i64 1,.int .i64 (f:Int),.bool u])).r (y 18) W6:=d 18 (by decide);clear d;obtain⟨a6,c6,l6,Y,N,_⟩:=hB;obtain⟨u,hr,J⟩:=hK;rw[J];clear J;obtain⟨gT',oT',curT,hk,hO,hy,hs,_,ha⟩:=fu.ent (S:=S5.lst a6 c6 l6) Y (p:=p) (n:=n) o.out E (hI.out _ rfl);have e9:(some (⟨gT',oT',none⟩:Addr))=some ⟨U,R,none⟩:=hk.symm.trans hl;cases e9;have hL:(p:Int)<(S5.T.length:Int):=by have:=o.out;omega
     have ka:(n:Int)<64:=by omega
     have hh:=ae ha;have N:=s5.trans N;clear ha hk h5 s5
     go_wp2_with (refine aB rfl _ _ _ rfl U (R+p*192+n*3) _ (lV ⟨1,f,u⟩) rfl rfl rfl _ _ hy (by rw[fV];exact hs) (by kernel_rfl) (bU (jq _)) ?_)
     intro w7 hC hi;have Z:=hh.out w7 ⟨1,f,u⟩ hC hi;have s7:=N.put (H':={ S5.lst a6 c6 l6 with T:=setL (S5.lst a6 c6 l6).T p n ⟨1,f,u⟩ }) hi (.inr (by simp only[iQ,MW.lst,hl];simp[oB];right;right;right;right;right;right;right;right;rfl)) (λx hx => .inl hx);clear hy hC hi Y N;go_wp2;refine bodyPost_ret (v:=.tuple #[]) (by simp[results,go_sem,results78]) rfl ?_;exact⟨_,rfl,Z,s7,⟨i.out.sp,i.out.fi,i.out.ct,i.out.dk,i.out.fl,i.out.sl⟩,hH.out u (λh=>by first | exact trivial | exact⟨rfl,rfl⟩ | exact absurd (hr h) (by decide) | simp),hA.out _⟩
    | false=>
     skip;refine iF 20 [_,_,_,.v (.slice (some ⟨U,R,none⟩) S5.T.length S5.cb),_,.v (.int .i64 (n:Int)),_,_,.v (.bool true),_,_,.v (.bool false),_,_,_,_,_,.r 17 ((dC λv => ∃u,(u=true->false=true)/\v = .bool u)),.r 18 ((dC λv => ∃u,(u=true->false=true)/\v = .agg #[.int .i64 1,.int .i64 (f:Int),.bool u])),_] (Nu S5 B b w5 [(w.heap.size,#[.bool true,.bool grd,.bool false,.bool true,.int .i64 (F:Int),.int .i64 (I:Int)],80)]) aJ (λ_=>⟨S5.al,S5.cl,S5.l,h5,MS.refl _ _ _,by simpa using ⟨bx5,hM.out⟩⟩) (Qk aJ rfl (Qk aJ rfl (Qf aJ b 12 rfl rfl (ah ?_ (Qk aJ rfl (Qk aJ rfl (Qk aJ rfl (Qf aJ w.heap.size 3 rfl rfl (ah ?_ (Qk aJ rfl (Qf aJ w.heap.size 2 rfl rfl (ah ?_ (Qk aJ rfl (Qk aJ rfl (Qk aJ rfl (Qk aJ rfl (Qk aJ rfl (ah ?_ (ah ?_ (Qr aJ (.pointer (some ⟨U,R+p*192,none⟩)) (λρ y W hq=>(bP rfl (aI rfl hq) (aI rfl hq) o.out underlying96 ents_size)) rfl rfl (aF))))))))))))))))))))) (λ_=>rfl) rfl ?_
     ·intro ρ y W L D E s z A C;refine fT aJ (λ_ _ h=>h) A ?_;have kk:=D 94 2 rfl;have h2:y 2=_:=C 2 rfl;obtain⟨a,c,l,m1,m2,K⟩:=A;refine ak (.slice (some ⟨U,R,none⟩) S5.T.length S5.cb) (aj rfl) (by simp[execOp,go_sem,kk,h2,m1.blk.cell,jE,MW.lst,hl]) rfl
     ·intro ρ y W L D E s z A C;refine fT aJ (λ_ _ h=>h) A ?_;have ki:=D 99 7 rfl;have Z:y 7=_:=C 7 rfl;obtain⟨a,c,l,m1,m2,K⟩:=A;have K:=(K _ (bC.2 rfl)).1;refine ak (.bool true) (aj rfl) (by simp[execOp,go_sem,ki,Z,K.cell]) rfl
     ·intro ρ y W L D E s z A C;refine fT aJ (λ_ _ h=>h) A ?_;have km:=D 102 10 rfl;have kh:y 10=_:=C 10 rfl;obtain⟨a,c,l,m1,m2,K⟩:=A;have K:=(K _ (bC.2 rfl)).1;refine ak (.bool false) (bD 9 101 true true rfl rfl ((D 101 9 rfl).trans (C 9 rfl))) (by simp[execOp,go_sem,km,kh,K.cell]) rfl
     ·intro ρ y W L D E s z A C;refine fT aJ (λ_ _ h=>h) A ?_;have hR:=D 105 13 rfl;have hJ:y 13=_:=C 13 rfl;have kl:=D 108 16 rfl;have kT:y 16=_:=C 16 rfl;refine ak (.bool false) (aj rfl) (qB rfl (hR.trans hJ) (by exact (E (.const _) trivial).trans rfl)) ⟨false,λh=>(by cases h),rfl⟩
     ·intro ρ y W L D E s z A C;refine fT aJ (λ_ _ h=>h) A ?_;have kj:=D 98 6 rfl;have Y:y 6=_:=C 6 rfl;have hQ:=D 109 17 rfl;have kg:=C 17 rfl;obtain⟨u,hr,J⟩:=kg;have EC:∀v,ρ (.const v)=v:=λv=>E (.const v) trivial;refine ak (.agg #[.int .i64 1,.int .i64 (f:Int),.bool u]) (aj rfl) (by simp[execOp,go_sem,kj,Y,hQ,EC,J]) ⟨u,hr,rfl⟩
     intro y W6 hB d;have kt:((dC λv => ∃u,(u=true->false=true)/\v = .bool u)).r (y 17) W6:=d 17 (by decide);have hK:((dC λv => ∃u,(u=true->false=true)/\v = .agg #[.int .i64 1,.int .i64 (f:Int),.bool u])).r (y 18) W6:=d 18 (by decide);clear d;obtain⟨a6,c6,l6,Y,N,_⟩:=hB;obtain⟨u,hr,J⟩:=hK;rw[J];clear J;obtain⟨gT',oT',curT,hk,hO,hy,hs,_,ha⟩:=fu.ent (S:=S5.lst a6 c6 l6) Y (p:=p) (n:=n) o.out E (hI.out _ rfl);have e9:(some (⟨gT',oT',none⟩:Addr))=some ⟨U,R,none⟩:=hk.symm.trans hl;cases e9;have hL:(p:Int)<(S5.T.length:Int):=by have:=o.out;omega
     have ka:(n:Int)<64:=by omega
     have hh:=ae ha;have N:=s5.trans N;clear ha hk h5 s5
     go_wp2_with (refine aB rfl _ _ _ rfl U (R+p*192+n*3) _ (lV ⟨1,f,u⟩) rfl rfl rfl _ _ hy (by rw[fV];exact hs) (by kernel_rfl) (bU (jq _)) ?_)
     intro w7 hC hi;have Z:=hh.out w7 ⟨1,f,u⟩ hC hi;have s7:=N.put (H':={ S5.lst a6 c6 l6 with T:=setL (S5.lst a6 c6 l6).T p n ⟨1,f,u⟩ }) hi (.inr (by simp only[iQ,MW.lst,hl];simp[oB];right;right;right;right;right;right;right;right;rfl)) (λx hx => .inl hx);clear hy hC hi Y N;go_wp2;refine bodyPost_ret (v:=.tuple #[]) (by simp[results,go_sem,results78]) rfl ?_;exact⟨_,rfl,Z,s7,⟨i.out.sp,i.out.fi,i.out.ct,i.out.dk,i.out.fl,i.out.sl⟩,hH.out u (λh=>by first | exact trivial | exact⟨rfl,rfl⟩ | exact absurd (hr h) (by decide) | simp),hA.out _⟩
   | false=>
    skip;refine iF 20 [_,_,_,.v (.slice (some ⟨U,R,none⟩) S5.T.length S5.cb),_,.v (.int .i64 (n:Int)),_,_,.v (.bool false),_,_,_,_,_,_,_,_,.r 17 ((dC λv => ∃u,(u=true->false=true)/\v = .bool u)),.r 18 ((dC λv => ∃u,(u=true->false=true)/\v = .agg #[.int .i64 1,.int .i64 (f:Int),.bool u])),_] (Nu S5 B b w5 [(w.heap.size,#[.bool true,.bool grd,.bool gwr,.bool false,.int .i64 (F:Int),.int .i64 (I:Int)],80)]) aJ (λ_=>⟨S5.al,S5.cl,S5.l,h5,MS.refl _ _ _,by simpa using ⟨bx5,hM.out⟩⟩) (Qk aJ rfl (Qk aJ rfl (Qf aJ b 12 rfl rfl (ah ?_ (Qk aJ rfl (Qk aJ rfl (Qk aJ rfl (Qf aJ w.heap.size 3 rfl rfl (ah ?_ (Qk aJ rfl (Qk aJ rfl (Qk aJ rfl (Qk aJ rfl (Qk aJ rfl (Qk aJ rfl (Qk aJ rfl (Qk aJ rfl (ah ?_ (ah ?_ (Qr aJ (.pointer (some ⟨U,R+p*192,none⟩)) (λρ y W hq=>(bP rfl (aI rfl hq) (aI rfl hq) o.out underlying96 ents_size)) rfl rfl (aF))))))))))))))))))))) (λ_=>rfl) rfl ?_
    ·intro ρ y W L D E s z A C;refine fT aJ (λ_ _ h=>h) A ?_;have kk:=D 94 2 rfl;have h2:y 2=_:=C 2 rfl;obtain⟨a,c,l,m1,m2,K⟩:=A;refine ak (.slice (some ⟨U,R,none⟩) S5.T.length S5.cb) (aj rfl) (by simp[execOp,go_sem,kk,h2,m1.blk.cell,jE,MW.lst,hl]) rfl
    ·intro ρ y W L D E s z A C;refine fT aJ (λ_ _ h=>h) A ?_;have ki:=D 99 7 rfl;have Z:y 7=_:=C 7 rfl;obtain⟨a,c,l,m1,m2,K⟩:=A;have K:=(K _ (bC.2 rfl)).1;refine ak (.bool false) (aj rfl) (by simp[execOp,go_sem,ki,Z,K.cell]) rfl
    ·intro ρ y W L D E s z A C;refine fT aJ (λ_ _ h=>h) A ?_;have hR:=D 105 13 rfl;have hJ:y 13=_:=C 13 rfl;have kl:=D 108 16 rfl;have kT:y 16=_:=C 16 rfl;refine ak (.bool false) (aj rfl) (qB rfl (hR.trans hJ) (by exact (E (.const _) trivial).trans rfl)) ⟨false,λh=>(by cases h),rfl⟩
    ·intro ρ y W L D E s z A C;refine fT aJ (λ_ _ h=>h) A ?_;have kj:=D 98 6 rfl;have Y:y 6=_:=C 6 rfl;have hQ:=D 109 17 rfl;have kg:=C 17 rfl;obtain⟨u,hr,J⟩:=kg;have EC:∀v,ρ (.const v)=v:=λv=>E (.const v) trivial;refine ak (.agg #[.int .i64 1,.int .i64 (f:Int),.bool u]) (aj rfl) (by simp[execOp,go_sem,kj,Y,hQ,EC,J]) ⟨u,hr,rfl⟩
    intro y W6 hB d;have kt:((dC λv => ∃u,(u=true->false=true)/\v = .bool u)).r (y 17) W6:=d 17 (by decide);have hK:((dC λv => ∃u,(u=true->false=true)/\v = .agg #[.int .i64 1,.int .i64 (f:Int),.bool u])).r (y 18) W6:=d 18 (by decide);clear d;obtain⟨a6,c6,l6,Y,N,_⟩:=hB;obtain⟨u,hr,J⟩:=hK;rw[J];clear J;obtain⟨gT',oT',curT,hk,hO,hy,hs,_,ha⟩:=fu.ent (S:=S5.lst a6 c6 l6) Y (p:=p) (n:=n) o.out E (hI.out _ rfl);have e9:(some (⟨gT',oT',none⟩:Addr))=some ⟨U,R,none⟩:=hk.symm.trans hl;cases e9;have hL:(p:Int)<(S5.T.length:Int):=by have:=o.out;omega
    have ka:(n:Int)<64:=by omega
    have hh:=ae ha;have N:=s5.trans N;clear ha hk h5 s5
    go_wp2_with (refine aB rfl _ _ _ rfl U (R+p*192+n*3) _ (lV ⟨1,f,u⟩) rfl rfl rfl _ _ hy (by rw[fV];exact hs) (by kernel_rfl) (bU (jq _)) ?_)
    intro w7 hC hi;have Z:=hh.out w7 ⟨1,f,u⟩ hC hi;have s7:=N.put (H':={ S5.lst a6 c6 l6 with T:=setL (S5.lst a6 c6 l6).T p n ⟨1,f,u⟩ }) hi (.inr (by simp only[iQ,MW.lst,hl];simp[oB];right;right;right;right;right;right;right;right;rfl)) (λx hx => .inl hx);clear hy hC hi Y N;go_wp2;refine bodyPost_ret (v:=.tuple #[]) (by simp[results,go_sem,results78]) rfl ?_;exact⟨_,rfl,Z,s7,⟨i.out.sp,i.out.fi,i.out.ct,i.out.dk,i.out.fl,i.out.sl⟩,hH.out u (λh=>by first | exact trivial | exact⟨rfl,rfl⟩ | exact absurd (hr h) (by decide) | simp),hA.out _⟩
  rw[decide_eq_false hF];obtain rfl:gsh=false:=by
   cases gsh with
   | false=>rfl
   | true=>exact absurd ⟨hsh rfl,.inl rfl⟩ hF
  have ke:=ae hm.out.few;have gv:S.H.sl.length<=60:=ke.out.2.1;have hc:=h2.blk.cell;unfold jE at hc;dsimp only[MW.lst] at hc;clear hF hsh;go_upto_region 12 with (fail)
  go_cut [113] (fun s113 wx=>s113 = .bool (decide (x=2/\0<S.H.sl.length))/\wx=w2)
  case first=>
   by_cases hx2:x=2
   ·have k3:(x==2)=true:=by simp[hx2]
    have k5:=ae hx2;clear hx2
    by_cases hsl:0<S.H.sl.length
    ·have k9:(0:Int)<(S.H.sl.length:Int):=by omega
     go_wp2;go_meet
     case rel=>exact⟨by rw[decide_eq_true ⟨k5.out,hsl⟩],rfl⟩
    have k9:¬(0:Int)<(S.H.sl.length:Int):=by omega
    go_wp2;go_meet
    case rel=>exact⟨by rw[decide_eq_false (λh=>hsl h.2)],rfl⟩
   have k3:(x==2)=false:=by simp[hx2]
   go_wp2;go_meet
   case rel=>exact⟨by rw[decide_eq_false (λh=>hx2 h.1)],rfl⟩
  case rest=>
   obtain⟨rfl,gu⟩:=hcut;subst wc
   by_cases hS:x=2/\0<S.H.sl.length
   ·rw[decide_eq_true hS];have hsl:=hS.2;clear hS
    go_wp2_with fail
    refine (fU _ _ B b _ h2 (by omega)).mono ?_;rintro r w3 ⟨y3,a3,c3,l3,rfl,h3,s3,k1,_⟩;rw[oD] at h3 s3;have s3:=s2.trans s3;obtain⟨M,rfl⟩:=iI k1.1;have kC:M<S.H.sl.length:=by omega
    have gQ:(M:Int)<(S.H.sl.length:Int):=by omega
    clear h2 s2 bx2 hG hc k1;have hc:=h3.blk.cell;unfold jE at hc;dsimp only[MW.lst] at hc;obtain⟨gs,off,cap,cur,hv,kJ,hN,kp,hU,hW⟩:=Own.put (enc:=λx=>[fZ x]) (sz:=1) (l:=S.H.sl) (λ_=>rfl) Nat.one_pos (by rw[ko];exact h3.ma.sl) M kC;have kR:S.H.asl=some ⟨gs,off,none⟩:=(oJ hv).1;rw[kR] at hc;rw[tN] at kp hU hW;have c0:w3.cell? ⟨gs,off+M,none⟩=some (.int .i64 S.H.sl[M]):=hU 0 _ rfl;have k0:Hid (jT S.H.ma M=S.H.sl[M]):=ae (by unfold jT;show S.H.sl.getD M 0=_;rw[aX,aH kC];rfl);have hV:=ae hW;clear hv hW hU;generalize S.H.sl[M]=v0 at c0 k0
    by_cases hz:v0=0
    ·subst hz
     go_wp2_with (refine aB rfl _ _ _ rfl gs (off+M) _ [.int .i64 1] rfl rfl rfl _ _ hN (by show off+M+1<=cur.size;omega) (by kernel_rfl) (λu J=>by cases bC.1 J;rfl) ?_)
     intro w4 gh kL;have kH:oB (S.lst a3 c3 l3).H.asl=some gs:=by show oB S.H.asl=some gs;rw[kR];rfl
     have h4:fu w4 B b { S.lst a3 c3 l3 with H:={ S.H with sl:=S.H.sl.set M 1 } }:=h3.putS hN kJ kH kL (sl:=S.H.sl.set M 1) (by simp[MW.lst]) (by have:=hV.out w4 1 gh;rw[ko] at this;simpa[MW.lst] using this);have s4:=s3.put (H':={ S.lst a3 c3 l3 with H:={ S.H with sl:=S.H.sl.set M 1 } }) kL (.inr (by simp[iQ,kH])) (λx hx => .inl hx);have gP:S.H.sw.blocks.length=S.H.sl.length:=ke.out.2.2.2.2.2.2.2;have gD:Hid (JG S { S.lst a3 c3 l3 with H:={ S.H with sl:=S.H.sl.set M 1 } }):=ae ⟨rfl,rfl,rfl,rfl,rfl,bK⟩;have kr:S.T.length=S.H.sp.length:=by have:=hm.out.ok.len;rw[this];exact fH _
     have hD:p<S.T.length:=by omega
     have gE:(fI S.T p).length=64:=hm.out.ok.l64 (by rw[<-hm.out.ok.len];exact hD);have hH:Hid (∀P,Bd { S.H.ma with sl:=S.H.sl.set M 1,sw:=⟨S.H.sw.blocks.set M P,S.H.sw.queue⟩ } (setL S.T p n ⟨2,M,false⟩)):=ae λP=>
      hm.out.slotE (P:=P) (by rw[<-hm.out.ok.len];exact hD) E kU.out kC k0.out kN.out rfl
     have hA:Hid (∀x q j,¬(q=p/\j=n)->fO (setL S.T p n x) q j=fO S.T q j):=ae λx q j kb=>by rw[xE hm.out.ok (by rw[<-hm.out.ok.len];exact hD) E,if_neg kb]
     obtain⟨gw,ow,capw,curw,k8,gR,_,_,_,_⟩:=h4.ma.sw.b.put nK (by decide) M (by show M<S.H.sw.blocks.length;omega);have kf:S.H.wb=some ⟨gw,ow,none⟩:=(oJ k8).1;generalize hS4:({ S.lst a3 c3 l3 with H:={ S.H with sl:=S.H.sl.set M 1 } }:MW)=S4 at h4 s4 gD;have kf:S4.H.wb=some ⟨gw,ow,none⟩:=by rw[<-hS4];exact kf
     have kv:S4.H.sw=S.H.sw:=by rw[<-hS4]
     clear h3 s3 gh kL hN kp c0 hc kR kH k8;go_upto_region 16 with (fail);refine iF 9 [_,_,_,_,_,.v (.slice (some ⟨gw,ow,none⟩) S4.H.sw.blocks.length S4.H.cwb),.v (.int .i64 (M:Int)),_,.r 8 ((dC λv => ∃P,v = .agg (fP P)))] (Nu S4 B b w4 []) aJ (λ_=>⟨S4.al,S4.cl,S4.l,h4,MS.refl _ _ _,λt ht=>(by cases ht)⟩) (Qk aJ rfl (Qk aJ rfl (Qf aJ b 1 rfl rfl (Qf aJ b 4 rfl rfl (Qf aJ b 4 rfl rfl (ah ?_ (Qk aJ rfl (Qk aJ rfl (ah ?_ (aF)))))))))) (λ_=>rfl) rfl ?_
     ·intro ρ y W L D E s z A C;refine fT aJ (λ_ _ h=>h) A ?_;have gm:=D 153 4 rfl;have h4:y 4=_:=C 4 rfl;obtain⟨a,c,l,m1,m2,K⟩:=A;refine ak (.slice (some ⟨gw,ow,none⟩) S4.H.sw.blocks.length S4.H.cwb) (aj rfl) (by simp[execOp,go_sem,gm,h4,m1.blk.cell,jE,MW.lst,kf]) rfl
     ·intro ρ y W L D E s z A C;have gl:=D 156 7 rfl;have Z:y 7=_:=C 7 rfl;have EF:∀f,ρ (.func f) = .func (.func f) #[] #[]:=λf=>E (.func f) trivial;refine iZ _ _ (aj rfl) (aT rfl (EF _) func35 (by kernel_rfl) (by kernel_rfl) (by simp only[bX,bR,aY,gl,Z,EF];rfl)) ?_;exact Ry A λP _=>⟨P,rfl⟩
     intro y W6 hB d;have gq:((dC λv => ∃P,v = .agg (fP P))).r (y 8) W6:=d 8 (by decide);clear d;obtain⟨a6,c6,l6,Y,N,_⟩:=hB;obtain⟨P,hP⟩:=gq;rw[hP];clear hP;have N:=s4.trans N;obtain⟨gw',ow',capw',curw',ku,kG,kc,kz,_,ky⟩:=Y.ma.sw.b.put nK (by decide) M (by show M<S4.H.sw.blocks.length;rw[kv];omega);have e9:(some (⟨gw',ow',none⟩:Addr))=some ⟨gw,ow,none⟩:=(oJ ku).1.symm.trans kf;cases e9;have gx:(M:Int)<(S4.H.sw.blocks.length:Int):=by rw[kv];omega
     have kF:=ae ky;clear ku ky h4 s4
     go_wp2_with (refine aB rfl _ _ _ rfl gw (ow+M*8) _ (CV P) rfl rfl rfl _ _ kc (by rw[nK];exact kz) (by kernel_rfl) (bU (je P)) ?_)
     intro w7 hC hi;have kA:oB (S4.lst a6 c6 l6).H.wb=some gw:=by show oB S4.H.wb=some gw;rw[kf];rfl
     have Z:fu w7 B b { S4.lst a6 c6 l6 with H:={ S4.H with sw:=⟨S4.H.sw.blocks.set M P,S4.H.sw.queue⟩ } }:=Y.putW kc kG kA hi (l:=S4.H.sw.blocks.set M P) (by simp[MW.lst]) (by simpa[MW.lst] using kF.out w7 P hC);have s7:=N.put (H':={ S4.lst a6 c6 l6 with H:={ S4.H with sw:=⟨S4.H.sw.blocks.set M P,S4.H.sw.queue⟩ } }) hi (.inr (by simp[iQ,kA])) (λx hx => .inl hx);clear Y N kc hC hi kz gx;subst hS4;dsimp only[MW.lst] at Z s7;obtain⟨U,R,curT,hl,hO,hy,hs,_,ha⟩:=fu.ent Z (p:=p) (n:=n) hD E gE;have hl:S.ab=some ⟨U,R,none⟩:=hl;have hc:=Z.blk.cell;unfold jE at hc;dsimp only at hc;rw[hl] at hc;have hL:(p:Int)<(S.T.length:Int):=by omega
     have ka:(n:Int)<64:=by omega
     have hh:=ae ha;clear ha
     go_wp2_with (refine aB rfl _ _ _ rfl U (R+p*192+n*3) _ (lV ⟨2,M,false⟩) rfl rfl rfl _ _ hy (by rw[fV];exact hs) (by kernel_rfl) (bU (jq _)) ?_)
     intro w8 gg kK;have h8:=hh.out w8 ⟨2,M,false⟩ gg kK;have s8:=s7.put kK (.inr (by simp only[iQ,hl];simp[oB];right;right;right;right;right;right;right;right;rfl)) (λx hx => .inl hx) (H':=_);clear Z s7 hc gg kK hy;go_wp2;refine bodyPost_ret (v:=.tuple #[]) (by simp[results,go_sem,results78]) rfl ?_;exact⟨_,rfl,h8,s8.same rfl,⟨rfl,rfl,rfl,rfl,rfl,bK⟩,hH.out P,hA.out _⟩
    go_wp2;refine bodyPost_ret (v:=.tuple #[]) (by simp[results,go_sem,results78]) rfl ?_;exact⟨_,rfl,h3,s3,⟨rfl,rfl,rfl,rfl,rfl,rfl⟩,hm.out,λ_ _ _=>rfl⟩
   rw[decide_eq_false hS];clear hS hc
   go_wp2_with fail
   refine (yB _ B b _ h2).mono ?_;rintro r w3 ⟨P,a3,c3,l3,rfl,h3,s3⟩;rw[oD] at h3 s3;have bx3:=s3.blkN bx2 hT.out;have s3:=s2.trans s3;clear h2 s2 bx2 hG;have hG:=bx3.cell;unfold fP
   go_wp2_with fail
   refine (fU _ 2 B b _ h3 (by omega)).mono ?_;rintro r w4 ⟨y3,a4,c4,l4,rfl,h4,s4,_,_⟩;rw[oD] at h4 s4;have bx4:=s4.blkN bx3 hT.out;have s4:=s3.trans s4;clear h3 s3 bx3 hG;have hG:=bx4.cell
   go_wp2_with fail
   refine (Fh _ ⟨P,1,y3==1,false,-1,0⟩ B b _ h4 (by have:=ke.out.1;show S.H.m.fs.length<=1000;have e:S.H.ma.m.fs.length=S.H.m.fs.length:=rfl;omega)).mono ?_;rintro r w5 ⟨xf,a5,c5,l5,fs,rfl,h5,s5,gr⟩;rw[oD] at h5 s5;have bx5:=s5.blkN bx4 hT.out;have hM:=ae (s5.not bx4.lt hT.out);have s5:=s4.trans s5;clear h4 s4 bx4 hG;rcases gr with ⟨rfl,rfl⟩|⟨f,rfl,hj,hjr,rfl⟩
   ·go_wp2;refine bodyPost_ret (v:=.tuple #[]) (by simp[results,go_sem,results78]) rfl ?_;exact⟨_,rfl,h5,s5,⟨rfl,rfl,rfl,rfl,rfl,rfl⟩,hm.out,λ_ _ _=>rfl⟩
   have gA:f<S.H.m.fs.length:=hj;have kr:S.T.length=S.H.sp.length:=by have:=hm.out.ok.len;rw[this];exact fH _
   have hD:p<S.T.length:=by omega
   have hH:Hid (∀u:Bool,(u=true->gwr=true)->Bd ((S.lst a5 c5 l5).frs (S.H.m.fs.set f ⟨P,1,y3==1,false,-1,0⟩)).H.ma (setL ((S.lst a5 c5 l5).frs (S.H.m.fs.set f ⟨P,1,y3==1,false,-1,0⟩)).T p n ⟨1,f,u⟩)):=ae λu J=>
    hm.out.anonE (X:=⟨P,1,y3==1,false,-1,0⟩) (w:=u) (by rw[<-hm.out.ok.len];exact hD) E kU.out gA hjr ⟨rfl,rfl,rfl,rfl⟩ kN.out rfl J
   have i:Hid (JG S ((S.lst a5 c5 l5).frs (S.H.m.fs.set f ⟨P,1,y3==1,false,-1,0⟩))):=ae ⟨rfl,rfl,rfl,rfl,bK,rfl⟩;have hA:Hid (∀x q j,¬(q=p/\j=n)->fO (setL ((S.lst a5 c5 l5).frs (S.H.m.fs.set f ⟨P,1,y3==1,false,-1,0⟩)).T p n x) q j=fO S.T q j):=ae λx q j kb=>by show fO (setL S.T p n x) q j=_;rw[xE hm.out.ok (by rw[<-hm.out.ok.len];exact hD) E,if_neg kb]
   have o:Hid (p<((S.lst a5 c5 l5).frs (S.H.m.fs.set f ⟨P,1,y3==1,false,-1,0⟩)).T.length):=ae hD;have hI:Hid (∀S' : MW,S'.T=((S.lst a5 c5 l5).frs (S.H.m.fs.set f ⟨P,1,y3==1,false,-1,0⟩)).T->(fI S'.T p).length=64):=ae λS' e=>by rw[e];exact hm.out.ok.l64 (by rw[<-hm.out.ok.len];exact hD)
   have h5:fu w5 B b ((S.lst a5 c5 l5).frs (S.H.m.fs.set f ⟨P,1,y3==1,false,-1,0⟩)):=h5;have s5:MS w b S w5 ((S.lst a5 c5 l5).frs (S.H.m.fs.set f ⟨P,1,y3==1,false,-1,0⟩)):=s5;have hM:Hid (¬nL b ((S.lst a5 c5 l5).frs (S.H.m.fs.set f ⟨P,1,y3==1,false,-1,0⟩)) w.heap.size):=hM;have gW:(0:Int)<=(f:Int):=by omega
   clear hj hjr hD kr;generalize (S.lst a5 c5 l5).frs (S.H.m.fs.set f ⟨P,1,y3==1,false,-1,0⟩)=S5 at *
   obtain⟨U,R,_,hl,_⟩:=fu.ent (S:=S5) h5 (p:=p) (n:=n) o.out E (hI.out _ rfl);go_upto_region 4 with (fail);cases gwr with
   | true=>
    skip;refine iF 16 [_,_,_,.v (.slice (some ⟨U,R,none⟩) S5.T.length S5.cb),_,.v (.int .i64 (n:Int)),_,_,.v (.bool true),_,_,.r 11 ((dC λv => ∃x:Int,v = .int .i64 x/\0<=x)),.r 12 ((dC λv => ∃u,v = .bool u)),.r 13 ((dC λv => ∃u,(u=true->true=true)/\v = .bool u)),.r 14 ((dC λv => ∃u,(u=true->true=true)/\v = .agg #[.int .i64 1,.int .i64 (f:Int),.bool u])),_] (Nu S5 B b w5 [(w.heap.size,#[.bool true,.bool grd,.bool true,.bool false,.int .i64 gfi,.int .i64 (I:Int)],80)]) aJ (λ_=>⟨S5.al,S5.cl,S5.l,h5,MS.refl _ _ _,by simpa using ⟨bx5,hM.out⟩⟩) (Qk aJ rfl (Qk aJ rfl (Qf aJ b 12 rfl rfl (ah ?_ (Qk aJ rfl (Qk aJ rfl (Qk aJ rfl (Qf aJ w.heap.size 2 rfl rfl (ah ?_ (Qk aJ rfl (Qk aJ rfl (ah ?_ (ah ?_ (ah ?_ (ah ?_ (Qr aJ (.pointer (some ⟨U,R+p*192,none⟩)) (λρ y W hq=>(bP rfl (aI rfl hq) (aI rfl hq) o.out underlying96 ents_size)) rfl rfl (aF))))))))))))))))) (λ_=>rfl) rfl ?_
    ·intro ρ y W L D E s z A C;refine fT aJ (λ_ _ h=>h) A ?_;have kZ:=D 26 2 rfl;have h2:y 2=_:=C 2 rfl;obtain⟨a,c,l,m1,m2,K⟩:=A;refine ak (.slice (some ⟨U,R,none⟩) S5.T.length S5.cb) (aj rfl) (by simp[execOp,go_sem,kZ,h2,m1.blk.cell,jE,MW.lst,hl]) rfl
    ·intro ρ y W L D E s z A C;refine fT aJ (λ_ _ h=>h) A ?_;have kX:=D 31 7 rfl;have Z:y 7=_:=C 7 rfl;obtain⟨a,c,l,m1,m2,K⟩:=A;have K:=(K _ (bC.2 rfl)).1;refine ak (.bool true) (aj rfl) (by simp[execOp,go_sem,kX,Z,K.cell]) rfl
    ·intro ρ y W L D E s z A C;have gJ:=D 34 10 rfl;have kh:y 10=_:=C 10 rfl;have EC:∀v,ρ (.const v)=v:=λv=>E (.const v) trivial;have EF:∀f,ρ (.func f) = .func (.func f) #[] #[]:=λf=>E (.func f) trivial;refine iZ _ _ (bD 9 33 true true rfl rfl ((D 33 9 rfl).trans (C 9 rfl))) (aT rfl (EF _) func32 (by kernel_rfl) (by kernel_rfl) (by simp only[bX,bR,aY,gJ,kh,EC,EF];rfl)) ?_;exact AP 2 (by omega) A λx h1 _ _ _=>⟨x,rfl,h1⟩
    ·intro ρ y W L D E s z A C;refine fT aJ (λ_ _ h=>h) A ?_;have gI:=D 35 11 rfl;have gH:=C 11 rfl;obtain⟨x,hx,_⟩:=gH;refine ak _ (bD 9 33 true true rfl rfl ((D 33 9 rfl).trans (C 9 rfl))) (qm rfl (gI.trans hx) (E (.const _) trivial) (by simp[go_sem];rfl)) ⟨_,rfl⟩
    ·intro ρ y W L D E s z A C;refine fT aJ (λ_ _ h=>h) A ?_;have kW:=D 33 9 rfl;have h9:y 9=_:=C 9 rfl;have gk:=D 36 12 rfl;have gj:=C 12 rfl;obtain⟨u,J⟩:=gj;refine ak (.bool u) (aj rfl) (qB rfl (kW.trans h9) (by simpa using gk.trans J)) ⟨_,λ_=>rfl,rfl⟩
    ·intro ρ y W L D E s z A C;refine fT aJ (λ_ _ h=>h) A ?_;have kY:=D 30 6 rfl;have Y:y 6=_:=C 6 rfl;have kV:=D 37 13 rfl;have hJ:=C 13 rfl;obtain⟨u,hr,J⟩:=hJ;have EC:∀v,ρ (.const v)=v:=λv=>E (.const v) trivial;refine ak (.agg #[.int .i64 1,.int .i64 (f:Int),.bool u]) (aj rfl) (by simp[execOp,go_sem,kY,Y,kV,EC,J]) ⟨u,hr,rfl⟩
    intro y W6 hB d;have gN:((dC λv => ∃x:Int,v = .int .i64 x/\0<=x)).r (y 11) W6:=d 11 (by decide);have gM:((dC λv => ∃u,v = .bool u)).r (y 12) W6:=d 12 (by decide);have k2:((dC λv => ∃u,(u=true->true=true)/\v = .bool u)).r (y 13) W6:=d 13 (by decide);have hZ:((dC λv => ∃u,(u=true->true=true)/\v = .agg #[.int .i64 1,.int .i64 (f:Int),.bool u])).r (y 14) W6:=d 14 (by decide);clear d;obtain⟨a6,c6,l6,Y,N,_⟩:=hB;obtain⟨u,hr,J⟩:=hZ;rw[J];clear J;obtain⟨gT',oT',curT,hk,hO,hy,hs,_,ha⟩:=fu.ent (S:=S5.lst a6 c6 l6) Y (p:=p) (n:=n) o.out E (hI.out _ rfl);have e9:(some (⟨gT',oT',none⟩:Addr))=some ⟨U,R,none⟩:=hk.symm.trans hl;cases e9;have hL:(p:Int)<(S5.T.length:Int):=by have:=o.out;omega
    have ka:(n:Int)<64:=by omega
    have hh:=ae ha;have N:=s5.trans N;clear ha hk h5 s5
    go_wp2_with (refine aB rfl _ _ _ rfl U (R+p*192+n*3) _ (lV ⟨1,f,u⟩) rfl rfl rfl _ _ hy (by rw[fV];exact hs) (by kernel_rfl) (bU (jq _)) ?_)
    intro w7 hC hi;have Z:=hh.out w7 ⟨1,f,u⟩ hC hi;have s7:=N.put (H':={ S5.lst a6 c6 l6 with T:=setL (S5.lst a6 c6 l6).T p n ⟨1,f,u⟩ }) hi (.inr (by simp only[iQ,MW.lst,hl];simp[oB];right;right;right;right;right;right;right;right;rfl)) (λx hx => .inl hx);clear hy hC hi Y N;go_wp2;refine bodyPost_ret (v:=.tuple #[]) (by simp[results,go_sem,results78]) rfl ?_;exact⟨_,rfl,Z,s7,⟨i.out.sp,i.out.fi,i.out.ct,i.out.dk,i.out.fl,i.out.sl⟩,hH.out u (λh=>by first | exact trivial | exact⟨rfl,rfl⟩ | exact absurd (hr h) (by decide) | simp),hA.out _⟩
   | false=>
    skip;refine iF 16 [_,_,_,.v (.slice (some ⟨U,R,none⟩) S5.T.length S5.cb),_,.v (.int .i64 (n:Int)),_,_,.v (.bool false),_,_,_,_,.r 13 ((dC λv => ∃u,(u=true->false=true)/\v = .bool u)),.r 14 ((dC λv => ∃u,(u=true->false=true)/\v = .agg #[.int .i64 1,.int .i64 (f:Int),.bool u])),_] (Nu S5 B b w5 [(w.heap.size,#[.bool true,.bool grd,.bool false,.bool false,.int .i64 gfi,.int .i64 (I:Int)],80)]) aJ (λ_=>⟨S5.al,S5.cl,S5.l,h5,MS.refl _ _ _,by simpa using ⟨bx5,hM.out⟩⟩) (Qk aJ rfl (Qk aJ rfl (Qf aJ b 12 rfl rfl (ah ?_ (Qk aJ rfl (Qk aJ rfl (Qk aJ rfl (Qf aJ w.heap.size 2 rfl rfl (ah ?_ (Qk aJ rfl (Qk aJ rfl (Qk aJ rfl (Qk aJ rfl (ah ?_ (ah ?_ (Qr aJ (.pointer (some ⟨U,R+p*192,none⟩)) (λρ y W hq=>(bP rfl (aI rfl hq) (aI rfl hq) o.out underlying96 ents_size)) rfl rfl (aF))))))))))))))))) (λ_=>rfl) rfl ?_
    ·intro ρ y W L D E s z A C;refine fT aJ (λ_ _ h=>h) A ?_;have kZ:=D 26 2 rfl;have h2:y 2=_:=C 2 rfl;obtain⟨a,c,l,m1,m2,K⟩:=A;refine ak (.slice (some ⟨U,R,none⟩) S5.T.length S5.cb) (aj rfl) (by simp[execOp,go_sem,kZ,h2,m1.blk.cell,jE,MW.lst,hl]) rfl
    ·intro ρ y W L D E s z A C;refine fT aJ (λ_ _ h=>h) A ?_;have kX:=D 31 7 rfl;have Z:y 7=_:=C 7 rfl;obtain⟨a,c,l,m1,m2,K⟩:=A;have K:=(K _ (bC.2 rfl)).1;refine ak (.bool false) (aj rfl) (by simp[execOp,go_sem,kX,Z,K.cell]) rfl
    ·intro ρ y W L D E s z A C;refine fT aJ (λ_ _ h=>h) A ?_;have kW:=D 33 9 rfl;have h9:y 9=_:=C 9 rfl;have gk:=D 36 12 rfl;have gj:y 12=_:=C 12 rfl;refine ak (.bool false) (aj rfl) (qB rfl (kW.trans h9) (by exact (E (.const _) trivial).trans rfl)) ⟨false,λh=>(by cases h),rfl⟩
    ·intro ρ y W L D E s z A C;refine fT aJ (λ_ _ h=>h) A ?_;have kY:=D 30 6 rfl;have Y:y 6=_:=C 6 rfl;have kV:=D 37 13 rfl;have hJ:=C 13 rfl;obtain⟨u,hr,J⟩:=hJ;have EC:∀v,ρ (.const v)=v:=λv=>E (.const v) trivial;refine ak (.agg #[.int .i64 1,.int .i64 (f:Int),.bool u]) (aj rfl) (by simp[execOp,go_sem,kY,Y,kV,EC,J]) ⟨u,hr,rfl⟩
    intro y W6 hB d;have k2:((dC λv => ∃u,(u=true->false=true)/\v = .bool u)).r (y 13) W6:=d 13 (by decide);have hZ:((dC λv => ∃u,(u=true->false=true)/\v = .agg #[.int .i64 1,.int .i64 (f:Int),.bool u])).r (y 14) W6:=d 14 (by decide);clear d;obtain⟨a6,c6,l6,Y,N,_⟩:=hB;obtain⟨u,hr,J⟩:=hZ;rw[J];clear J;obtain⟨gT',oT',curT,hk,hO,hy,hs,_,ha⟩:=fu.ent (S:=S5.lst a6 c6 l6) Y (p:=p) (n:=n) o.out E (hI.out _ rfl);have e9:(some (⟨gT',oT',none⟩:Addr))=some ⟨U,R,none⟩:=hk.symm.trans hl;cases e9;have hL:(p:Int)<(S5.T.length:Int):=by have:=o.out;omega
    have ka:(n:Int)<64:=by omega
    have hh:=ae ha;have N:=s5.trans N;clear ha hk h5 s5
    go_wp2_with (refine aB rfl _ _ _ rfl U (R+p*192+n*3) _ (lV ⟨1,f,u⟩) rfl rfl rfl _ _ hy (by rw[fV];exact hs) (by kernel_rfl) (bU (jq _)) ?_)
    intro w7 hC hi;have Z:=hh.out w7 ⟨1,f,u⟩ hC hi;have s7:=N.put (H':={ S5.lst a6 c6 l6 with T:=setL (S5.lst a6 c6 l6).T p n ⟨1,f,u⟩ }) hi (.inr (by simp only[iQ,MW.lst,hl];simp[oB];right;right;right;right;right;right;right;right;rfl)) (λx hx => .inl hx);clear hy hC hi Y N;go_wp2;refine bodyPost_ret (v:=.tuple #[]) (by simp[results,go_sem,results78]) rfl ?_;exact⟨_,rfl,Z,s7,⟨i.out.sp,i.out.fi,i.out.ct,i.out.dk,i.out.fl,i.out.sl⟩,hH.out u (λh=>by first | exact trivial | exact⟨rfl,rfl⟩ | exact absurd (hr h) (by decide) | simp),hA.out _⟩
def QE (B:Nat):mQ:=⟨λv w => ∃g,v = .pointer (some ⟨g,0,none⟩)/\aG w g (fC f0) 81/\B<=g,λ_ _ _ hb ⟨g,h1,h2,h3⟩=>⟨g,h1,h2.ext hb,h3⟩⟩
theorem NP {l:List mQ} (n:l.getD q anyR=QE B) (j:l.getD p anyR=QE B):FY (rl l) p q i (.pointer (some ⟨w.heap.size,0,none⟩)) w:=by
 refine JK (λu d => ?_) (λu d => ?_)
 ·unfold rl at d;rw[n] at d;obtain⟨g,f,h2,_⟩:=d;exact⟨g,_,_,f,h2⟩
 unfold rl at d;rw[j] at d;obtain⟨g,f,h2,_⟩:=d;exact⟨g,_,_,f,h2⟩
theorem ET {l:List mQ} (v:Value) (f:Region.wanted o (gW ρ ops)=true) (d:(execOp ρ o).run P w = .ok (.value v) w') (j:Below w.heap.size w w') (n:rl l i v w') (s:FY (rl l) p q i v w) :
  if Region.wanted o (gW ρ ops)=true then dS P o ρ w (λv w'=>(Below w.heap.size w w'/\rl l i v w')/\FY (rl l) p q i v w) else rl l i undef w/\i≠p/\i≠q:=by
 rw[if_pos f];unfold dS;rw[d];exact⟨⟨j,n⟩,s⟩
theorem SG (l:List Ar) (x:Ar) (a:Option Addr) (c:Nat) (w:World) (h:WM w a c l) :
  Calls Tryz.prog 77 #[.slice a l.length c,.agg (ku x)] w λr w' => ∃v,r = .returned (.tuple #[v,.int .i64 (Bv l x)])/\Own w' w.heap.size 94 7 v (yT l x).length ((yT l x).flatMap mO)/\Below w.heap.size w w':=by
 go_enter func77,ntmps77;go_upto_region 1 with (fail);refine iC (λW=>Code.wp _ _ _ _ W) λW0 hT h5 km => ?_;clear km
 go_wp2_with fail
 refine (EK l a c _ (h.below hT)).mono ?_;rintro r w1 ⟨rfl,R⟩;have hs:=ag hT R;have h4:=h5.ext R;clear hT h5 R;unfold Lr
 go_wp2_with (refine aL rfl _ _ _ rfl #[.int .i64 (bQ l).1,.int .i64 (bQ l).2] rfl rfl rfl fau_size (nM _ _) ?_)
 intro w2 hS hv;have b:=ag hs hS;have hL:=h4.ext hS;clear hs h4 hS
 by_cases C:(bQ l).1=0
 ·have ht:=jM.1 C;have hM:=ae C;have Z:=nG ht.2;rw[C] at hv;have ka:=hv.cell;clear C
  go_wp2_with (refine ay _ _ rfl _ 0 rfl rfl _ hL.rd _ underlying94 rfl area_size ?_)
  refine (Gx x _).mono ?_;rintro r w3 ⟨rfl,hR⟩;have b:=ag b hR;have hZ:=hL.ext hR;clear ka hv hL hR
  by_cases N:aV x=0
  ·have o:=ae N;rw[N];clear N;go_upto_region 7 with (fail);refine SQ 7 5 6 [mV (.slice a l.length c),mV (.agg (fC (dz l))),mV (.agg (ku x)),(XB x),mV (.agg (fC (dz [x]))),(QE w.heap.size),(QE w.heap.size)] (by kernel_rfl) (by decide) (by decide) (by decide) _ rfl (by kernel_rfl) (by kernel_rfl) (by decide) _ rfl (by kernel_rfl) (ah (uT (by decide) (by decide) (XQ (XP rfl) (XN rfl (XO rfl rfl) rfl))) (ah ?_ (ah ?_ (ah ?_ (ah ?_ (ah ?_ (ah ?_ (aF)))))))) ?_
   ·refine uT (by decide) (by decide) ?_;intro ρ y W C E F I;have kt:=C 23 0 rfl;have h0:y 0=_:=I 0 rfl;have EF:∀f,ρ (.func f) = .func (.func f) #[] #[]:=λf=>E (.func f) trivial;refine aO _ _ (aj rfl) (aT rfl (EF _) func24 (by kernel_rfl) (by kernel_rfl) (by simp only[bX,bR,aY,kt,h0,EF];rfl)) ?_;refine (sG l a c W (h.below (ag b F)).rd (by omega) (λx hx=>(srtF_ok Z x hx).1)).mono ?_;rintro r w1 ⟨rfl,R⟩;exact⟨_,rfl,R,rfl⟩
   ·refine uT (by decide) (by decide) ?_;intro ρ y W C E F I;have E3:ρ (.tmp 3) = .pointer (some ⟨w.heap.size,0,none⟩):=(E (.tmp 3) rfl).trans rfl;refine ak (.agg (ku x)) (aj rfl) (dW rfl E3 (hZ.ext F) underlying94 rfl area_size) rfl
   ·refine uT (by decide) (by decide) ?_;intro ρ y W C E F I;have ks:=C 25 2 rfl;have h2:y 2=_:=I 2 rfl;refine jc (.slice (some ⟨W.heap.size,0,none⟩) 1 1) (aj rfl) (by simp[execOp,go_sem,bT,ks,h2,ku]) ((Below.refl _ _).alloc (az _) (.cells (ku x) 94)) ?_;exact⟨_,rfl,aG.new _ _ _⟩
   ·refine uT (by decide) (by decide) ?_;intro ρ y W C E F I;have kr:=C 26 3 rfl;have h3:=I 3 rfl;have EF:∀f,ρ (.func f) = .func (.func f) #[] #[]:=λf=>E (.func f) trivial;obtain⟨gq,ko,kn⟩:=h3;refine aO _ _ (aj rfl) (aT rfl (EF _) func24 (by kernel_rfl) (by kernel_rfl) (by simp only[bX,bR,aY,kr,EF,ko];rfl)) ?_;refine (sG [x] _ 1 W (λj u hj=>kn.rd j u (by simpa[mO] using hj)) (by simp) (λz hz=>by rw[bC.1 hz];exact o.out)).mono ?_;rintro r w1 ⟨rfl,R⟩;exact⟨_,rfl,R,rfl⟩
   ·intro ρ y W C E F I;refine ET (.pointer (some ⟨W.heap.size,0,none⟩)) (aj rfl) (w':=W.alloc (.cells (fC f0) 81)) ?_ ((Below.refl _ _).alloc (az _) _) ⟨_,rfl,aG.new _ _ _,(ag b F).size⟩ (NP rfl rfl);simp[execOp,go_sem,bT,bT];rfl
   ·intro ρ y W C E F I;refine ET (.pointer (some ⟨W.heap.size,0,none⟩)) (aj rfl) (w':=W.alloc (.cells (fC f0) 81)) ?_ ((Below.refl _ _).alloc (az _) _) ⟨_,rfl,aG.new _ _ _,(ag b F).size⟩ (NP rfl rfl);simp[execOp,go_sem,bT,bT];rfl
   intro y WA hH d hB;have hW:y 1=_:=d 1 (by decide);have hV:y 4=_:=d 4 (by decide);have kl:=d 3 (by decide);have kk:((QE w.heap.size)).r (y 5) WA:=d 5 (by decide);have kj:((QE w.heap.size)).r (y 6) WA:=d 6 (by decide);clear d;simp only[lay,dh,bT,bR,aY,Nat.reduceAdd,Nat.reduceLT,decide_true,decide_false,if_true,tY,if_false,zK,uF,tZ,yt,zL,yC,hW,hV];clear hW hV;obtain⟨K,hK,kc,h9⟩:∃g,y 5 = .pointer (some ⟨g,0,none⟩)/\aG WA g (fC f0) 81/\w.heap.size<=g:=kk;obtain⟨J,hJ,kb,kp⟩:∃g,y 6 = .pointer (some ⟨g,0,none⟩)/\aG WA g (fC f0) 81/\w.heap.size<=g:=kj;have hU:K≠J:=λe=>hB (by rw[hK,hJ,e]);simp only[hK,hJ];have s:=ag b hH;clear kl hK hJ hB b hZ hH;go_upto_region 8 with (refine aA rfl _ _ _ rfl K (fC (dz l)) rfl rfl _ _ kc (by rw[ky,ky]) (by rw[ky];exact ones_size) (zC _) ?_);intro W5 ki hm;have t:=s.grown hm s.size (λk hk=>by cases hk;exact h9);have kf:aG W5 J (fC f0) 81:=kb.grown hm (λe=>hU (aM e));clear s kc kb hm;go_upto_region 8 with (refine aA rfl _ _ _ rfl J (fC (dz [x])) rfl rfl _ _ kf (by rw[ky,ky]) (by rw[ky];exact ones_size) (zC _) ?_);intro W6 ke hl;have hr:=t.grown hl t.size (λk hk=>by cases hk;exact kp);have kh:aG W6 K (fC (dz l)) 81:=ki.grown hl (λe=>hU (aM e).symm);clear t ki kf hl;go_upto_region 9 with (fail)
   go_loopw [28] (fun i wr => ∃n:Nat,n<=64/\i = .int .i64 n/\Below w.heap.size w wr/\aG wr K (fC (uK x n (dz l))) 81/\aG wr J (fC (dz [x])) 81/\∀i:Nat,i<n->¬(pF (i:Int) x=true/\onA l i≠none)) (fun i _=>64-(intOf i).toNat)
   case atStart=>exact⟨0,by omega,rfl,hr,by rw[Mm];exact kh,ke,λi hi=>absurd hi (fe _)⟩
   case round=>
    clear hr kh ke;obtain⟨n,E,rfl,m,U,S,hE⟩:=hrel;have hO:=ae hE;clear hE
    by_cases D:n<64
    ·have kv:(n:Int)<64:=by omega
     have Y:wr.cell? ⟨K,n*6,none⟩=some (.bool (onA l n).isSome):=by rw[U.cell];exact Bc (uK x n (dz l)) n 0 D _ (by rw[UU,rX Z];rfl) (by decide)
     have V:wr.cell? ⟨J,n*6,none⟩=some (.bool (dz [x] n).isSome):=by rw[S.cell];exact Bc (dz [x]) n 0 D _ rfl (by decide)
     rw[RU] at V
     by_cases A:pF (n:Int) x=true
     ·rw[if_pos A] at V;cases hon:onA l (n:Int) with
      | some p=>
       rw[hon] at Y;simp only[Option.isSome] at Y V;have q0:Hid _:=ae (Ic (l:=l) (x:=x) (e:=6) (by unfold Bv;rw[if_neg (by rw[hM.out];simp),if_neg (by rw[o.out];simp),if_pos (TA A (by rw[hon];simp))]) (by decide));have b:=m;clear A hon;go_wp2;go_ret2;have q:=q0.out;exact⟨.slice none 0 0,by first | (rw[q.1];done) | (rw[q.1];rfl),by rw[q.2];exact Own.nil _ _ _ _,b⟩
      | none=>
       rw[hon] at Y;simp only[Option.isSome] at Y V;have hC:Hid (bI (fC (uK x n (dz l))) (n*6) (qN (some (kN x n)))=fC (uK x (n+1) (dz l))):=ae (by rw[TU _ n D,Sa A]);have hD:dZ wr (some ⟨J,n*6,none⟩) (qN (some (kN x n))):=λj u hj=>⟨J,n*6,rfl,by
        rw[S.cell];exact Bc (dz [x]) n j D u (by rw[RU,if_pos A];exact hj) (by have:=(cz.1 hj).1;rwa [oU] at this)⟩
       have hu:Hid (∀i:Nat,i<n+1->¬(pF (i:Int) x=true/\onA l i≠none)):=ae (λi hi M=>by
        by_cases c:i=n
        ·subst c;exact M.2 hon
        ·exact hO.out i (by omega) M)
       have hF:Hid (n*6+6<=(fC (uK x n (dz l))).size):=ae (by rw[ky];omega);clear A hon;go_upto_region 15 with (first | (refine ay _ _ rfl _ (n*6) rfl rfl _ hD _ underlying80 rfl one_size ?_) | (refine gH rfl _ _ _ rfl K (n*6) (yK (some (kN x n))) rfl rfl _ _ U hF.out one_size (Sc _) ?_));intro W7 kg hh;have hy:aG W7 K (fC (uK x (n+1) (dz l))) 81:=by rw[<-hC.out];exact kg
       have hQ:=m.grown hh m.size (λk hk=>by cases hk;exact h9);have kq:aG W7 J (fC (dz [x])) 81:=S.grown hh (λe=>hU (aM e));clear U S m kg hh Y V hD hC hF;go_wp2;go_roundw
       case rel=>exact⟨n+1,by omega,by go_num,hQ,hy,kq,hu.out⟩
       case measure=>simp[intOf];omega
     rw[if_neg A] at V;simp only[Option.isSome] at V;have hu:Hid (∀i:Nat,i<n+1->¬(pF (i:Int) x=true/\onA l i≠none)):=ae (λi hi M=>by
      by_cases c:i=n
      ·subst c;exact A M.1
      ·exact hO.out i (by omega) M)
     have hy:aG wr K (fC (uK x (n+1) (dz l))) 81:=by rw[Qa A];exact U
     clear A U;cases hsX:(onA l (n:Int)).isSome
     ·rw[hsX] at Y;clear hsX;go_wp2;go_roundw
      case rel=>exact⟨n+1,by omega,by go_num,m,hy,S,hu.out⟩
      case measure=>simp[intOf];omega
     rw[hsX] at Y;clear hsX;go_wp2;go_roundw
     case rel=>exact⟨n+1,by omega,by go_num,m,hy,S,hu.out⟩
     case measure=>simp[intOf];omega
    have h6:n=64:=by omega
    subst h6;have hI:=UO ht.2 o.out hO.out;have h7:∀z∈l,qJ x z=false:=λz hz=>by have:=uS.1 hI z hz;simpa using this
    have hg:=EI o.out Z (bL o.out).1.2.1.1 h7;rw[<-DD] at hg;have hG:Hid (Bv l x=Ej (uw (EU l x)).length):=ae (by unfold Bv;rw[if_neg (by rw[hM.out];simp),if_neg (by rw[o.out];simp),if_neg (by rw[hI];simp)];rfl);have h8:Hid (yT l x=if 16<(uw (EU l x)).length then [] else uw (EU l x)):=ae (by
     unfold yT;rw[hG.out];unfold Ej
     by_cases G:16<(uw (EU l x)).length
     ·rw[if_pos G,if_pos G];rfl
     ·rw[if_neg G,if_neg G];rfl)
    have hN:Hid ((fC (uK x 64 (dz l))).size=384):=ae (ky _);clear D
    go_wp2_with (refine ay _ _ rfl _ 0 rfl rfl _ U.rd _ underlying81 rfl (by rw[jg,hN.out];exact ones_size) ?_)
    refine (Uk (uK x 64 (dz l)) (uw (EU l x)) (IV hg) (λi hi => ?_) (λi p hp => ?_) _).mono ?_
    ·rw[Ju hg,DD,Ji o.out _ Z h7];unfold uK;rw[rX Z]
     by_cases c:pF (i:Int) x=true
     ·rw[if_pos ⟨c,hi⟩,if_pos c]
     ·rw[if_neg (λq=>c q.1),if_neg c]
    ·unfold uK at hp;split at hp
     ·rename_i M;cases hp;have h1:=NT o.out M.1;refine⟨h1.2.2.1,?_⟩
      by_cases hf:(kN x i).fi<0
      ·rw[(h1.2.2.2.1 hf).1];decide
      ·have:=h1.2.2.2.2 (by omega);omega
     ·exact KN Z i p hp
    rintro r w9 ⟨v9,rfl,hA,kd⟩;have hP:=ag m kd;replace hA:=hA.mono m.size;rw[<-h8.out] at hA;rw[<-hG.out];clear m U S kd h8;go_wp2;go_ret2;exact⟨v9,rfl,hA,hP⟩
  have q0:Hid _:=ae (Ic (l:=l) (x:=x) (e:=aV x) (by unfold Bv;rw[if_neg (by rw[hM.out];simp),if_pos N]) N);have kx : (aV x != 0)=true:=by simpa using N
  clear N ht;go_wp2;go_ret2;have q:=q0.out;exact⟨.slice none 0 0,by first | (rw[q.1];done) | (rw[q.1];rfl),by rw[q.2];exact Own.nil _ _ _ _,b⟩
 have q0:Hid _:=ae (Ic (l:=l) (x:=x) (e:=(bQ l).1) (by unfold Bv;rw[if_pos C]) C);have kw : ((bQ l).1 != 0)=true:=by simpa using C
 have ka:=hv.cell;clear C;go_upto_region 3 with (fail);go_quiet (fail);rename_i nq;have b:=below_drewN b nq;go_wp2;go_ret2;have q:=q0.out;exact⟨.slice none 0 0,by first | (rw[q.1];done) | (rw[q.1];rfl),by rw[q.2];exact Own.nil _ _ _ _,b⟩
theorem PQ {l:List Ar} {x:Ar} (h:Bv l x=0):(l.length<=16/\okF none l)/\aV x=0/\(∀a∈l,qJ x a=false)/\(uw (EU l x)).length<=16/\yT l x=uw (EU l x):=by
 have n:=h;unfold Bv at h
 by_cases d:(bQ l).1=0
 ·rw[if_neg (by omega)] at h
  by_cases f:aV x=0
  ·rw[if_neg (by omega)] at h;cases hm:l.any (qJ x)
   ·rw[hm,if_neg (by simp)] at h;refine⟨jM.1 d,f,λa j => ?_,?_,?_⟩
    ·have:=uS.1 hm a j;simpa using this
    ·split at h
     ·omega
     ·omega
    ·unfold yT;rw[if_neg (by omega)]
   ·rw[hm,if_pos rfl] at h;omega
  ·rw[if_pos f] at h;exact absurd h f
 ·rw[if_pos d] at h;exact absurd h d
theorem MU {l:List Ar} {x:Ar} (h:Bv l x=0):(yT l x).length<=16/\okF none (yT l x)/\∀n,onA (yT l x) n=if pF n x then some (kN x n) else onA l n:=by
 obtain⟨⟨C,h2⟩,d,u,s,A⟩:=PQ h;have f:=nG h2;have z:=(bL d).1.2.1.1;have j:=EI d f z u;rw[A];rw[DD] at s ⊢;exact⟨s,IV j,λn=>by rw[Ju j,Ji d n f u]⟩
def Oe (S:MW):Prop:=∀p∈S.H.sp,∀n g,onA p.ar n=some g->g.fi<S.H.fi.length
structure More (S S' : MW):Prop where
 bd:Bd S'.H.ma S'.T
 fm:Oe S'
 fi:S'.H.fi=S.H.fi
 ct:S'.H.ct=S.H.ct
 dk:S'.H.dk=S.H.dk
 sp:S'.H.sp.length=S.H.sp.length+1
 fs:S'.H.m.fs.length=S.H.m.fs.length
def SpaceR (S:MW) (B b:Nat) (w:World) (r:Ending) (w' : World):Prop:=∃S',r = .returned (.tuple #[])/\fu w' B b S'/\MS w b S w' S'/\More S S' /\
 (S.l=[]->S'.l=[]/\S'.H.ma = { S.H.ma with sp:=S.H.ma.sp++[⟨true,[],zTb⟩] }/\S'.T=S.T++[List.replicate 64 zEn])
theorem fu.kb_ne {S:MW} (h:fu w B b S) {x:Nat} (j:aG w x cs T)
 (J:T≠98/\T≠66/\T≠3/\T≠58/\T≠105/\T≠101/\T≠122/\T≠76/\T≠69):¬nL b S x:=by
 obtain⟨F,E,D,f,C,A,z,u,s⟩:=J;have own:∀ {e:TypeId} {sz n c:Nat} {a:Option Addr} {xs:List Value},T≠e->Own w B e sz (.slice a n c) n xs->oB a=some x->False:=λG I d=>by obtain⟨_,K,h2⟩:=iY I d;exact lX j h2 G rfl
 intro d;rcases d with d|d
 ·subst d;exact lX j h.blk F rfl
 simp only[iQ,dw,gN,or_false] at d;rcases d with d|d|d|d|d|d|d|d|d
 ·exact own E h.ma.fr d.symm
 ·exact own D h.ma.sl d.symm
 ·exact own f h.ma.sw.b d.symm
 ·exact own f h.ma.dk.b d.symm
 ·exact own C h.ma.dk.q d.symm
 ·exact own A h.ma.st.own d.symm
 ·exact own z h.ma.ca d.symm
 ·exact own u h.ma.sp d.symm
 ·exact own s h.tt d.symm
theorem fu.own_not {S:MW} (h:fu w B b S) {n:Nat} (f:Own w B' e sz (.slice a n c) n xs)
 (s:e≠98/\e≠66/\e≠3/\e≠58/\e≠105/\e≠101/\e≠122/\e≠76/\e≠69):∀x,(Value.slice a n c).ownBlock=some x->¬nL b S x:=λx d=>by
 obtain⟨cs,j⟩:=mK f x d;exact h.kb_ne j s
theorem fu.locA {S:MW} (h:fu w B b S) (D:aG w g cs 94) (C:¬nL b S g) (z:∀p∈S.H.sp,oB p.aa≠some g) (A:B<=g) (f:w.grownBy w' (some g)):fu w' B b S:=by
 have d:∀ {a:Option Addr},oB a∈iQ S->∀n c u,(Value.slice a n c).ownBlock=some u->some g≠some u:=λE n c u j e=>by cases e;rw[jA] at j;exact C (.inr (by rw[<-j];exact E))
 exact⟨h.blk.grown f (λe=>C (.inl (aM e))),h.ge,⟨h.ma.fr.grown f (d (by simp[iQ]) _ _),h.ma.sl.grown f (d (by simp[iQ]) _ _),⟨h.ma.sw.b.grown f (d (by simp[iQ]) _ _),h.ma.sw.q.grown f (λu j=>by rw[h.n3] at j;cases j)⟩,⟨h.ma.dk.b.grown f (d (by simp[iQ]) _ _),h.ma.dk.q.grown f (d (by simp[iQ]) _ _)⟩,
  ⟨h.ma.st.own.grown f (d (by simp[iQ]) _ _),λi p s=>ax (h.ma.st.each i p s) D (by decide) f,h.ma.st.apart⟩,h.ma.ca.grown f (d (by simp[iQ]) _ _),h.ma.sp.grown f (d (by simp[iQ]) _ _),λp s=>⟨(h.ma.ps p s).1.grown f (λu j e=>by cases e;rw[jA] at j;exact z p s j),(h.ma.ps p s).2.keep D (by decide) f⟩,h.ma.c64⟩,
  h.tt.grown f (d (by simp[iQ]) _ _),h.rd.keep h.ra h.bs f A,h.ra,h.n1,h.n2,h.n3⟩
theorem fu.newA {S:MW} (h:fu w B b S) {x:Nat} (j:w.heap.size<=x):∀p∈S.H.sp,oB p.aa≠some x:=λp d f=>by
 have:=(iY (h.ma.ps p d).1 f).2.choose_spec.lt;omega
def MC (S:MW) (B b:Nat) (w:World) (i:Nat) (cs:Array Value) (T:TypeId):(Nat->Bool)->(Nat->Value)->World->Prop:=λL y W=>
 Nu S B b w [] L y W/\(L i=true->∃g,y i = .pointer (some ⟨g,0,none⟩)/\aG W g cs T/\¬nL b S g/\w.heap.size<=g)
theorem kv {S:MW} :∀L y W W',Below W.heap.size W W'->MC S B b w i cs T L y W->MC S B b w i cs T L y W':=
 λ_ _ _ _ hb ⟨h1,h2⟩=>⟨aJ _ _ _ _ hb h1,λd=>by obtain⟨g,n,j,f⟩:=h2 d;exact⟨g,n,j.ext hb,f⟩⟩
theorem RP {S:MW} (f:fu w B b S) (h:MC S B b w i cs T L y W):MC S B b w i cs T (dO L i) (fq y i (.pointer (some ⟨W.heap.size,0,none⟩))) (W.alloc (.cells cs T)):=by
 have d:w.heap.size<=W.heap.size:=by obtain⟨⟨a,c,l,n,h2,j⟩,_⟩:=h;exact h2.size
 exact⟨aJ _ _ _ _ ((Below.refl _ _).alloc (az _) _) h.1,λ_=>⟨W.heap.size,by unfold fq;rw[if_pos rfl],aG.new _ _ _,f.new d,d⟩⟩
theorem yh {S:MW} {y' : Value->Nat->Value} (D:L' i=L i) (u:∀v,y' v i=y i) (n:Int) (hn : -9223372036854775808<=n/\n<=9223372036854775807) (h:MC S B b w i cs T L y W) {R:Value->World->Prop} (C:∀x:Int,0<=x->x<256->(x<n\/x=0)->∀W',R (.int .i64 x) W') :
  Calls Tryz.prog 32 #[.pointer (some ⟨b,0,none⟩),.int .i64 n] W λe W' => ∃v,e = .returned v/\MC S B b w i cs T L' (y' v) W'/\R v W':=by
 obtain⟨⟨a,c,l,F,h2,K⟩,E⟩:=h;refine (fU _ n B b W F hn).mono ?_;rintro r W' ⟨x,a',c',s,rfl,k1,f,d,_⟩;exact⟨_,rfl,⟨⟨a',c',s,k1,h2.trans f,λt z=>(by cases z)⟩,λA=>by obtain⟨g,J,I,j,G⟩:=E (by rw[<-D];exact A);exact⟨g,by rw[u];exact J,f.blkN I j,j,G⟩⟩,C x d.1 d.2.1 d.2.2 W'⟩
theorem sF {n:Nat} (f:Own w B e sz (.slice a n c) n xs) (d:w.grownBy w' (Value.slice a n c).ownBlock):Below w.heap.size w w'\/∃g cs,aG w g cs e/\oB a=some g/\w.grownBy w' (some g):=by
 cases h:(Value.slice a n c).ownBlock with
 | none=>rw[h] at d;exact .inl (lg d)
 | some g=>
  rw[h] at d;obtain⟨cs,j⟩:=mK f g h;exact .inr ⟨g,cs,j,by rw[<-jA a n c];exact h,d⟩
theorem fu.appP {S:MW} (h:fu w B b S) (R:w.grownBy w1 (Value.slice S.H.ap S.H.sp.length S.H.cp).ownBlock) {l:List PS} (N:Own w1 B 76 10 (.slice a l.length c) l.length (l.flatMap sV))
 (D:∀p∈l,Own w1 B 94 7 (.slice p.aa p.ar.length p.ac) p.ar.length (p.ar.flatMap mO)/\rJ w1 B (oh p.ts) p.tb) (U:aG w2 b (bI (jE S) 11 [.slice a l.length c]) 98) (f:w1.grownBy w2 (some b)) :
  fu w2 B b { S with H:={ S.H with ap:=a,cp:=c,sp:=l } }:=by
 have z:aG w1 b (jE S) 98/\Own w1 B 66 13 (.slice S.H.af S.H.m.fs.length S.H.cf) S.H.m.fs.length (S.H.m.fs.flatMap pG)/\Own w1 B 3 1 (.slice S.H.asl S.H.sl.length S.H.csl) S.H.sl.length (S.H.sl.map fZ) /\
   ng w1 B (.slice S.H.wb S.H.sw.blocks.length S.H.cwb) (.slice S.H.wq S.H.sw.queue.length S.H.cwq) S.H.sw/\ng w1 B (.slice S.H.db S.H.dk.blocks.length S.H.cdb) (.slice S.H.dq S.H.dk.queue.length S.H.cdq) S.H.dk/\qC w1 B (.slice S.H.ai S.H.fi.length S.H.ci) S.H.fi /\
   Own w1 B 122 3 (.slice S.H.ac S.H.ca.length S.H.cc) S.H.ca.length (S.H.ca.flatMap iK)/\Own w1 B 69 192 (.slice S.ab S.T.length S.cb) S.T.length (S.T.flatMap tL)/\ve w1 S.al S.cl S.l.length (S.l.map CQ):=by
  rcases sF h.ma.sp R with C|⟨g,cs,u,A,j⟩
  ·have s:=h.below C;exact⟨s.blk,s.ma.fr,s.ma.sl,s.ma.sw,s.ma.dk,s.ma.st,s.ma.ca,s.tt,s.rd⟩
  ·exact⟨bZ h.blk u (by decide) j,ax h.ma.fr u (by decide) j,ax h.ma.sl u (by decide) j,h.ma.sw.keep u (by decide) (by decide) j,h.ma.dk.keep u (by decide) (by decide) j,h.ma.st.keep u (by decide) (by decide) j,ax h.ma.ca u (by decide) j,ax h.tt u (by decide) j,h.rd.keep h.ra h.bs j (iY h.ma.sp A).1⟩
 obtain⟨n,k1,M,K,J,I,G,F,E⟩:=z;exact⟨U,h.ge,⟨ax k1 n (by decide) f,ax M n (by decide) f,K.keep n (by decide) (by decide) f,J.keep n (by decide) (by decide) f,I.keep n (by decide) (by decide) f,ax G n (by decide) f,ax N n (by decide) f,λp d=>⟨ax (D p d).1 n (by decide) f,(D p d).2.keep n (by decide) f⟩,h.ma.c64⟩,
  ax F n (by decide) f,E.keep h.ra (bi h.ge (qZ n.lt)) f h.ge,h.ra,h.n1,h.n2,h.n3⟩
theorem fu.appT {S:MW} (h:fu w B b S) (E:w.grownBy w1 (Value.slice S.ab S.T.length S.cb).ownBlock) {T:List (List En)} (D:Own w1 B 69 192 (.slice a T.length c) T.length (T.flatMap tL))
 (F:aG w2 b (bI (jE S) 12 [.slice a T.length c]) 98) (d:w1.grownBy w2 (some b)):fu w2 B b { S with ab:=a,cb:=c,T:=T }:=by
 have j:aG w1 b (jE S) 98/\wR w1 B S.H/\ve w1 S.al S.cl S.l.length (S.l.map CQ):=by
  rcases sF h.tt E with u|⟨g,cs,A,s,f⟩
  ·have z:=h.below u;exact⟨z.blk,z.ma,z.rd⟩
  ·exact⟨bZ h.blk A (by decide) f,h.ma.keep A (by decide) f,h.rd.keep h.ra h.bs f (iY h.tt s).1⟩
 obtain⟨n,k1,C⟩:=j;exact⟨F,h.ge,k1.keep n (by decide) d,ax D n (by decide) d,C.keep h.ra (bi h.ge (qZ n.lt)) d h.ge,h.ra,h.n1,h.n2,h.n3⟩
theorem MS.app {n:Nat} {S0 S S' : MW} (h:MS w0 b S0 w S) (I:fu w B b S) (D:Own w B' e sz (.slice a n c) n xs) (C:oB a∈iQ S) (F:w.grownBy w1 (Value.slice a n c).ownBlock) (s:w1.grownBy w2 (some b)) (z:nY w (.slice a n c) (.slice a' n' c'))
 (E:∀x,nL b S' x->nL b S x\/oB a' = some x):MS w0 b S0 w2 S':=by
 have G:MS w0 b S0 w1 S:=by
  rcases sF D F with A|⟨g,cs,_,j,u⟩
  ·exact h.below A
  ·exact h.put u (.inr (by rw[<-j];exact C)) (λx d => .inl d)
 refine G.put s (.inl rfl) λx d => ?_;rcases E x d with d|d
 ·exact .inl d
 rcases z with f|f
 ·rw[jA,jA] at f;exact .inl (.inr (by rw[<-d,f];exact C))
 ·exact .inr (bi h.size (f x (by rw[jA];exact d)))
theorem ents_info:(Tryz.prog.info? 69).map (λi=>(i.zero,i.size,i.bytes))=some (some (.agg (tL (List.replicate 64 zEn)).toArray),192,1536):=by kernel_rfl
theorem Cs {a:Act} (C:o.guard=none) (s x:Operand)
 (j:o.op=Op.call { callee:=Callee.builtin Builtin.append,args:=#[s,x],argTypes:=#[96,96] }) (u:cs=(tL (List.replicate 64 zEn)).toArray)
 (B:Nat) (v:Value) (n:Nat) (xs:List Value) (A:a.eval s=v) (d:Own w B 69 192 v n xs) (z:a.eval x = .slice (some ⟨w.heap.size,0,none⟩) 1 1) (F:n<=100) (E:B<=w.heap.size)
 (D:∀f w',Own w' B 69 192 f (n+1) (xs++tL (List.replicate 64 zEn))->(w.alloc (.cells (tL (List.replicate 64 zEn)).toArray 69)).grownBy w' v.ownBlock->nY (w.alloc (.cells (tL (List.replicate 64 zEn)).toArray 69)) v f->wpList Tryz.prog ops Q rest (a.put o.dst f) w') :
  wpList Tryz.prog ops Q (o::rest) a (w.alloc (.cells cs 69)):=by
 subst u;exact tQ C s x 96 j B 69 _ 192 1536 underlying96 ents_info rfl (by decide) v n xs A (d.alloc _) (some ⟨w.heap.size,0,none⟩) 1 1 (tL (List.replicate 64 zEn)) z (λh=>(by cases h)) (az _) (zb _) (by simpa using dZ.new w (tL (List.replicate 64 zEn)).toArray 69) (by decide +kernel) (by unfold maxLen;omega) (by omega) (dE E _) D
theorem Ei (S:MW) (B b:Nat) (w:World) (h:fu w B b S) (D:Bd S.H.ma S.T) (hf:Oe S) (hl4:S.H.sp.length<4) :
  Calls Tryz.prog 37 #[.pointer (some ⟨b,0,none⟩)] w (SpaceR S B b w):=by
 have kK:=ae D;have gl:=ae hf;have gY:=ae h.bs;have gO:S.H.fi.length<=5:=by have:=(mF.1 D.few.2.2.2.2.1).1.1;simpa[MH.ma,cK] using this
 clear D hf;go_enter func37,ntmps37
 go_wp2_with fail
 refine (fU _ 4 B b _ h (by omega)).mono ?_;rintro r w1 ⟨n1,a1,c1,l1,rfl,h1,s1,kV,kT⟩;obtain⟨N,rfl⟩:=iI kV.1;have gX:N<4:=by omega
 have kS:=ae kT;clear h kV kT;have ge:IntKind.i64.wrap ((S.H.fi.length:Int)+1)=(S.H.fi.length:Int)+1:=bG _ (by omega);go_upto_region 2 with (fail)
 go_loopw [11,2] (fun i u wr => ∃(k:Nat) (A:List Ar) (a:Option Addr) (c:Nat) (al:Option Addr) (cl:Nat) (G:List UInt8),k<=N/\i = .int .i64 k/\u = .slice a A.length c/\Own wr B 94 7 (.slice a A.length c) A.length (A.flatMap mO)/\fu wr B b (S.lst al cl G)/\MS w b S wr (S.lst al cl G) /\
  Hid ((bQ A).1=0/\(∀n g,onA A n=some g->g.fi<S.H.fi.length)/\(k=0->A=[]/\G=l1))) (λi _ _=>N-(intOf i).toNat)
 case atStart=>exact⟨0,[],none,0,a1,c1,l1,aZ _,rfl,rfl,by simpa using Own.nil _ _ _ _,h1,s1,ae ⟨by decide,λn g h=>(by cases h),λ_=>⟨rfl,rfl⟩⟩⟩
 case round=>
  clear h1 s1;obtain⟨k,A,a,c,al,cl,G,hk,rfl,rfl,hi,hm,hs,hA⟩:=hrel;have kl:=ae (hm.own_not hi (by decide))
  by_cases hkN:k<N
  ·have gj:(k:Int)<(N:Int):=by omega
   go_upto_region 3 with (fail);refine iF 21 [_,.r 1 ((dC λv => ∃x:Int,v = .int .i64 x/\0<=x/\x<12)),_,.r 3 ((dC λv => ∃x:Int,v = .int .i64 x)),.r 4 ((dC λv => ∃u,v = .bool u)),_,.r 6 ((dC λv => ∃x:Int,v = .int .i64 x)),.r 7 ((dC λv => ∃u,v = .bool u)),_,_,_,_,_,_,.v (.slice S.H.ai S.H.fi.length S.H.ci),_,_,.r 17 ((dC λv => ∃x:Int,v = .int .i64 x/\0<=x/\x<(S.H.fi.length:Int)+1)),.r 18 ((dC λv => ∃x:Int,v = .int .i64 x/\-1<=x/\x<S.H.fi.length)),.r 19 ((dC λv => ∃fr rd wr fi,v = .agg (ku ⟨fr,0,rd,wr,false,fi,0⟩)/\0<=fr/\fr<12/\-1<=fi/\fi<S.H.fi.length)),.r 20 ((dC λ_=>True))] (MC (S.lst al cl G) B b wr 20 (ku ⟨0,0,false,false,false,0,0⟩) 94) kv (λ_=>⟨⟨al,cl,G,hm,MS.refl _ _ _,λt ht=>(by cases ht)⟩,λe=>(by cases e)⟩) (Qk kv rfl (ah ?_ (Qk kv rfl (ah ?_ (ah ?_ (Qk kv rfl (ah ?_ (ah ?_ (Qk kv rfl (Qk kv rfl (Qk kv rfl (Qf kv b 1 rfl rfl (Qf kv b 8 rfl rfl (Qf kv b 8 rfl rfl (ah ?_ (Qn kv rfl rfl rfl rfl (Qb kv (.int .i64 ((S.H.fi.length:Int)+1)) (by simp[go_sem,ge]) rfl rfl rfl rfl rfl (ah ?_ (ah ?_ (ah ?_ (ah ?_ (aF)))))))))))))))))))))) (λ_=>rfl) rfl ?_
   ·intro ρ y W L E I q z F D;have gK:=E 13 0 rfl;have h0:y 0=_:=D 0 rfl;have EC:∀v,ρ (.const v)=v:=λv=>I (.const v) trivial;have EF:∀f,ρ (.func f) = .func (.func f) #[] #[]:=λf=>I (.func f) trivial;refine iZ _ _ (aj rfl) (aT rfl (EF _) func32 (by kernel_rfl) (by kernel_rfl) (by simp only[bX,bR,aY,gK,h0,EC,EF];rfl)) ?_;exact yh rfl (λ_=>rfl) 12 (by omega) F λx h1 h2 h3 _=>⟨x,rfl,h1,by omega⟩
   ·intro ρ y W L E I q z F D;have gI:=E 15 2 rfl;have h2:y 2=_:=D 2 rfl;have EC:∀v,ρ (.const v)=v:=λv=>I (.const v) trivial;have EF:∀f,ρ (.func f) = .func (.func f) #[] #[]:=λf=>I (.func f) trivial;refine iZ _ _ (aj rfl) (aT rfl (EF _) func32 (by kernel_rfl) (by kernel_rfl) (by simp only[bX,bR,aY,gI,h2,EC,EF];rfl)) ?_;exact yh rfl (λ_=>rfl) 4 (by omega) F λx h1 h2 h3 _=>⟨x,rfl⟩
   ·intro ρ y W L E I q z F D;refine fT kv (λ_ _ h=>h) F ?_;have gH:=E 16 3 rfl;have h3:=D 3 rfl;obtain⟨x,C⟩:=h3;refine ak _ (aj rfl) (qm rfl (gH.trans C) (I (.const _) trivial) (by simp[go_sem];rfl)) ⟨_,rfl⟩
   ·intro ρ y W L E I q z F D;have gF:=E 18 5 rfl;have h5:y 5=_:=D 5 rfl;have EC:∀v,ρ (.const v)=v:=λv=>I (.const v) trivial;have EF:∀f,ρ (.func f) = .func (.func f) #[] #[]:=λf=>I (.func f) trivial;refine iZ _ _ (aj rfl) (aT rfl (EF _) func32 (by kernel_rfl) (by kernel_rfl) (by simp only[bX,bR,aY,gF,h5,EC,EF];rfl)) ?_;exact yh rfl (λ_=>rfl) 3 (by omega) F λx h1 h2 h3 _=>⟨x,rfl⟩
   ·intro ρ y W L E I q z F D;refine fT kv (λ_ _ h=>h) F ?_;have gE:=E 19 6 rfl;have h6:=D 6 rfl;obtain⟨x,C⟩:=h6;refine ak _ (aj rfl) (qm rfl (gE.trans C) (I (.const _) trivial) (by simp[go_sem];rfl)) ⟨_,rfl⟩
   ·intro ρ y W L E I q z F D;refine fT kv (λ_ _ h=>h) F ?_;have gB:=E 26 13 rfl;have gs:y 13=_:=D 13 rfl;obtain⟨⟨a0,c0,l0,m1,m2,m3⟩,_⟩:=F;refine ak (.slice S.H.ai S.H.fi.length S.H.ci) (aj rfl) (by simp[execOp,go_sem,gB,gs,m1.blk.cell,jE,MW.lst]) rfl
   ·intro ρ y W L E I q z F D;have gC:=E 21 8 rfl;have h8:y 8=_:=D 8 rfl;have gA:=E 29 16 rfl;have gr:y 16=_:=D 16 rfl;have EF:∀f,ρ (.func f) = .func (.func f) #[] #[]:=λf=>I (.func f) trivial;refine iZ _ _ (aj rfl) (aT rfl (EF _) func32 (by kernel_rfl) (by kernel_rfl) (by simp only[bX,bR,aY,gC,h8,gA,gr,EF];rfl)) ?_;exact yh rfl (λ_=>rfl) _ (by omega) F λx h1 h2 h3 _=>⟨x,rfl,h1,by omega⟩
   ·intro ρ y W L E I q z F D;refine fT kv (λ_ _ h=>h) F ?_;have gz:=E 30 17 rfl;have gq:=D 17 rfl;obtain⟨x,C,k1,k2⟩:=gq;have kF:IntKind.i64.wrap (x-1)=x-1:=bG _ (by omega);refine ak (.int .i64 (x-1)) (aj rfl) (qm rfl (gz.trans C) (I (.const _) trivial) (by simp[go_sem,kF])) ⟨_,rfl,by omega,by omega⟩
   ·intro ρ y W L E I q z F D;refine fT kv (λ_ _ h=>h) F ?_;have gJ:=E 14 1 rfl;have h1:=D 1 rfl;have gG:=E 17 4 rfl;have h4:=D 4 rfl;have gD:=E 20 7 rfl;have h7:=D 7 rfl;have gy:=E 31 18 rfl;have gp:=D 18 rfl;obtain⟨x1,hB,k1,k2⟩:=h1;obtain⟨x2,gd⟩:=h4;obtain⟨x3,gc⟩:=h7;obtain⟨x4,gb,k3,k4⟩:=gp;refine ak (.agg (ku ⟨x1,0,x2,x3,false,x4,0⟩)) (aj rfl) (by simp[execOp,go_sem,gJ,gG,gD,gy,hB,gd,gc,gb,ku]) ⟨x1,x2,x3,x4,rfl,k1,k2,k3,k4⟩
   ·intro ρ y W L E I q z F D;refine fF (.pointer (some ⟨W.heap.size,0,none⟩)) (aj rfl) ?_ (RP hm F) trivial;simp[execOp,go_sem,ku]
   intro y W2 k0 m;have gT:((dC λv => ∃x:Int,v = .int .i64 x/\0<=x/\x<12)).r (y 1) W2:=m 1 (by decide);have gS:((dC λv => ∃x:Int,v = .int .i64 x)).r (y 3) W2:=m 3 (by decide);have ga:((dC λv => ∃u,v = .bool u)).r (y 4) W2:=m 4 (by decide);have gR:((dC λv => ∃x:Int,v = .int .i64 x)).r (y 6) W2:=m 6 (by decide);have gQ:((dC λv => ∃u,v = .bool u)).r (y 7) W2:=m 7 (by decide);have gM:((dC λv => ∃x:Int,v = .int .i64 x/\0<=x/\x<(S.H.fi.length:Int)+1)).r (y 17) W2:=m 17 (by decide);have gL:((dC λv => ∃x:Int,v = .int .i64 x/\-1<=x/\x<S.H.fi.length)).r (y 18) W2:=m 18 (by decide);have kO:((dC λv => ∃fr rd wr fi,v = .agg (ku ⟨fr,0,rd,wr,false,fi,0⟩)/\0<=fr/\fr<12/\-1<=fi/\fi<S.H.fi.length)).r (y 19) W2:=m 19 (by decide);clear m;obtain⟨⟨R,M,l2,h2,s2,_⟩,kC⟩:=k0;obtain⟨gx,kX,axz,hh,hI⟩:=kC rfl;obtain⟨fr,rd,Z,fi,hv,hz,gW,kN,k6⟩:=kO;rw[hv,kX];clear hv kX kC;rw[oD] at h2 s2;have ha:=s2.ownN hi kl.out;have hJ:Hid (∀x,(Value.slice a A.length c).ownBlock=some x->¬nL b S x):=kl;have kc:=ae (hm.newA hI);have hU:Hid (∀x,(Value.slice a A.length c).ownBlock=some x->some gx≠some x):=ae λx C e=>by have:=Jz hi x C;cases e;omega
   have hS:=ae (bi hs.size hI);have hT:B<=gx:=bi hm.bs hI;have hh:=ae hh;have s2:=hs.trans s2;clear hm hs hi hI
   go_wp2_with (refine aA rfl _ _ _ rfl gx (ku ⟨fr,0,rd,Z,false,fi,0⟩) rfl rfl _ _ axz rfl area_size (Uv _) ?_)
   intro w3 ax3 hy;have h3:=h2.locA axz hh.out kc.out hT hy;have s3:=s2.loc hy hS.out;have hZ:=ha.grown hy hU.out;clear h2 s2 ha hy axz;have kP:IntKind.i64.wrap (fr+1)=fr+1:=bG _ (by omega);go_upto_region 4 with (fail);refine iF 7 [_,.v (.int .i64 fr),_,_,.r 4 ((dC λv => ∃x:Int,v = .int .i64 x/\0<=x/\x<4)),.r 5 ((dC λv => ∃x:Int,v = .int .i64 x/\fr<x/\x<=fr+4)),_] (Nu (S.lst R M l2) B b w3 [(gx,ku ⟨fr,0,rd,Z,false,fi,0⟩,94)]) aJ (λ_=>⟨R,M,l2,h3,MS.refl _ _ _,by simpa using ⟨ax3,hh.out⟩⟩) (Qf aJ gx 0 rfl rfl (ah ?_ (Qb aJ (.int .i64 (fr+1)) (by simp[go_sem,kP]) rfl rfl rfl rfl rfl (Qk aJ rfl (ah ?_ (ah ?_ (Qf aJ gx 1 rfl rfl (aF)))))))) (λ_=>rfl) rfl ?_
   ·intro ρ y W L E I q z F D;refine fT aJ (λ_ _ h=>h) F ?_;have gw:=E 33 0 rfl;have h0:y 0=_:=D 0 rfl;obtain⟨a0,c0,l0,m1,m2,m3⟩:=F;have m3:=(m3 _ (bC.2 rfl)).1;refine ak (.int .i64 fr) (aj rfl) (by simp[execOp,go_sem,gw,h0,m3.cell,ku]) rfl
   ·intro ρ y W L E I q z F D;have gu:=E 36 3 rfl;have h3:y 3=_:=D 3 rfl;have EC:∀v,ρ (.const v)=v:=λv=>I (.const v) trivial;have EF:∀f,ρ (.func f) = .func (.func f) #[] #[]:=λf=>I (.func f) trivial;refine iZ _ _ (aj rfl) (aT rfl (EF _) func32 (by kernel_rfl) (by kernel_rfl) (by simp only[bX,bR,aY,gu,h3,EC,EF];rfl)) ?_;exact AP 4 (by omega) F λx h1 h2 h3 _=>⟨x,rfl,h1,by omega⟩
   ·intro ρ y W L E I q z F D;refine fT aJ (λ_ _ h=>h) F ?_;have gv:=E 35 2 rfl;have h2:y 2=_:=D 2 rfl;have gt:=E 37 4 rfl;have h4:=D 4 rfl;obtain⟨x,C,k1,k2⟩:=h4;have kF:IntKind.i64.wrap (fr+1+x)=fr+1+x:=bG _ (by omega);refine ak (.int .i64 (fr+1+x)) (aj rfl) (qm rfl (gv.trans h2) (gt.trans C) (by simp[go_sem,kF])) ⟨_,rfl,by omega,by omega⟩
   intro y W4 kZ kh;have ga:((dC λv => ∃x:Int,v = .int .i64 x/\0<=x/\x<4)).r (y 4) W4:=kh 4 (by decide);have k9:((dC λv => ∃x:Int,v = .int .i64 x/\fr<x/\x<=fr+4)).r (y 5) W4:=kh 5 (by decide);clear kh;obtain⟨Y,V,l4,h4,s4,kW⟩:=kZ;have ax4:=(kW _ (bC.2 rfl)).1;rw[oD] at h4 s4;have hY:=s4.ownN hZ hJ.out;have s4:=s3.trans s4;obtain⟨en,hv,gV,gU⟩:=k9;rw[hv];clear hv kW h3 s3 hZ ax3 kP
   go_wp2_with (refine aB rfl _ _ _ rfl gx 1 _ [.int .i64 en] rfl rfl rfl _ _ ax4 (by show 1+1<=7;omega) (by kernel_rfl) (λu hu=>by cases bC.1 hu;rfl) ?_)
   intro w5 ax5 hr;rw[show bI (ku ⟨fr,0,rd,Z,false,fi,0⟩) 1 [.int .i64 en]=ku ⟨fr,en,rd,Z,false,fi,0⟩ from rfl] at ax5;have h5:=h4.locA ax4 hh.out kc.out hT hr;have s5:=s4.loc hr hS.out;have hq:=hY.grown hr hU.out;clear h4 s4 hY ax4 hr;have hR:=ax5.cell;unfold ku at hR;go_upto_if 42 with (fail)
   go_cut [2] (fun s2 wx=>s2 = .slice a A.length c/\∃(X:Ar) (a:Option Addr) (cl:Nat) (l:List UInt8),aG wx gx (ku X) 94/\fu wx B b (S.lst a cl l)/\MS w b S wx (S.lst a cl l)/\Own wx B 94 7 s2 A.length (A.flatMap mO)/\Hid (X.fi<S.H.fi.length))
   case first=>
    by_cases hfi0:0<=fi
    ·go_wp2_with fail
     refine (fU _ 2 B b _ h5 (by omega)).mono ?_;rintro r w6 ⟨x6,a6,c6,l6,rfl,h6,s6,_,_⟩;rw[oD] at h6 s6;have ax6:=s6.blkN ax5 hh.out;have K:=s6.ownN hq hJ.out;have s6:=s5.trans s6;clear h5 s5 hq hR ax5
     go_wp2_with fail
     refine (fU _ 4 B b _ h6 (by omega)).mono ?_;rintro r w7 ⟨x7,a7,c7,l7,rfl,h7,s7,_,_⟩;rw[oD] at h7 s7;have ax7:=s7.blkN ax6 hh.out;have J:=s7.ownN K hJ.out;have s7:=s6.trans s7;clear h6 s6 K ax6
     go_wp2_with (refine aB rfl _ _ _ rfl gx 4 _ [.bool (x6==1)] rfl rfl rfl _ _ ax7 (by show 4+1<=7;omega) (by kernel_rfl) (λu hu=>by cases bC.1 hu;rfl) ?_)
     intro w8 ax8 ko;rw[show bI (ku ⟨fr,en,rd,Z,false,fi,0⟩) 4 [.bool (x6==1)]=ku ⟨fr,en,rd,Z,x6==1,fi,0⟩ from rfl] at ax8;have h8:=h7.locA ax7 hh.out kc.out hT ko;have s8:=s7.loc ko hS.out;have own8:=J.grown ko hU.out;clear h7 s7 J ax7 ko
     go_wp2_with (refine aB rfl _ _ _ rfl gx 6 _ [.int .i64 x7] rfl rfl rfl _ _ ax8 (by show 6+1<=7;omega) (by kernel_rfl) (λu hu=>by cases bC.1 hu;rfl) ?_)
     intro w9 ax9 kn;rw[show bI (ku ⟨fr,en,rd,Z,x6==1,fi,0⟩) 6 [.int .i64 x7]=ku ⟨fr,en,rd,Z,x6==1,fi,x7⟩ from rfl] at ax9;have U:=h8.locA ax8 hh.out kc.out hT kn;have s9:=s8.loc kn hS.out;have own9:=own8.grown kn hU.out;clear h8 s8 own8 ax8 kn;go_wp2;go_meet
     case rel=>exact⟨rfl,_,a7,c7,l7,ax9,U,s9,own9,ae k6⟩
    go_wp2;go_meet
    case rel=>exact⟨rfl,_,Y,V,l4,ax5,h5,s5,hq,ae k6⟩
   case rest=>
    obtain⟨rfl,X,a6,c6,l6,ax6,h6,s6,K,gm⟩:=hcut;clear h5 s5 hq ax5 hR
    go_wp2_with (refine ay _ _ rfl gx 0 rfl rfl _ ax6.rd _ underlying94 rfl area_size ?_)
    refine (SG A X a c _ (have U:=uI K;⟨U.le,U.mx,U.nl,U.rd⟩)).mono ?_;rintro r w7 ⟨v7,rfl,J,kq⟩;obtain⟨a7,c7,rfl,_⟩:=J.rd;have J:=J.mono h6.bs;have h7:=h6.below kq;have s7:=s6.below kq;have K:=K.below kq;clear h6 s6 ax6 kq kl hJ hU hh kc hS hT
    by_cases hme:Bv A X=0
    ·have km:=MU hme;have kb:Hid ((bQ (yT A X)).1=0/\(∀n g,onA (yT A X) n=some g->g.fi<S.H.fi.length)/\(k+1=0->yT A X=[]/\l6=l1)):=ae ⟨jM.2 ⟨km.1,km.2.1⟩,λn g hg=>by
      rw[km.2.2] at hg;split at hg
      ·cases hg;exact gm.out
      ·exact hA.out.2.1 n g hg,λe=>by omega⟩
     clear km;rw[hme];go_wp2;go_roundw
     case rel=>exact⟨k+1,yT A X,a7,c7,a6,c6,l6,by omega,by go_num,rfl,J,h7,s7,kb⟩
     case measure=>simp[intOf];omega
    have kb:Hid ((bQ A).1=0/\(∀n g,onA A n=some g->g.fi<S.H.fi.length)/\(k+1=0->A=[]/\l6=l1)):=ae ⟨hA.out.1,hA.out.2.1,λe=>by omega⟩;go_wp2;go_roundw
    case rel=>exact⟨k+1,A,a,c,a6,c6,l6,by omega,by go_num,rfl,K,h7,s7,kb⟩
    case measure=>simp[intOf];omega
  have gj:¬(k:Int)<(N:Int):=by omega
  obtain rfl:k=N:=by omega
  have gZ:A.length<=16:=(jM.1 hA.out.1).1;have hc:=hm.blk.cell;unfold jE at hc;dsimp only[MW.lst] at hc;have hD:=hm.ma.sp;dsimp only[MW.lst] at hD
  go_wp2_with (at_builtin;go_must (refine tQ rfl _ _ 43 rfl B 76 _ 10 224 underlying43 space_info rfl (by decide) _ S.H.sp.length (S.H.sp.flatMap sV) rfl (hD.alloc _) (some ⟨wr.heap.size,0,none⟩) 1 1 (sV ⟨true,a,c,A,nTs,zTb⟩) rfl (λh=>(by cases h)) (az _) rfl (dZ.new _ (yM ⟨true,a,c,A,nTs,zTb⟩) _) (bU (by simp[yM,nTs,Value.oneCell'])) (by unfold maxLen;omega) (by omega) (dE hm.bs _) ?_))
  intro v2 w2 own2 hH kx;have kr:=(Below.refl wr.heap.size wr).alloc (az _) (.cells (yM (⟨true,a,c,A,nTs,zTb⟩:PS)) 76);have o:=hm.below kr;have hP:=hs.below kr;have ka:=hi.below kr;have d:Own (wr.alloc (.cells (yM (⟨true,a,c,A,nTs,zTb⟩:PS)) 76)) B 76 10 (.slice S.H.ap S.H.sp.length S.H.cp) S.H.sp.length (S.H.sp.flatMap sV):=o.ma.sp;have ha:=jl d hH ka (by decide);have kE:=zQ d hH o.blk (by decide);have kz:∀p∈S.H.sp++[(⟨true,a,c,A,nTs,zTb⟩:PS)],Own w2 B 94 7 (.slice p.aa p.ar.length p.ac) p.ar.length (p.ar.flatMap mO)/\rJ w2 B (oh p.ts) p.tb:=λp hp=>by
   rcases gP.1 hp with hp|hp
   ·exact⟨jl d hH (o.ma.ps p hp).1 (by decide),CU d hH (o.ma.ps p hp).2⟩
   rw[bC.1 hp];exact⟨ha,Cg _ _⟩
  obtain⟨R,M,rfl,_⟩:=own2.rd;have hG:(S.H.sp++[(⟨true,a,c,A,nTs,zTb⟩:PS)]).length=S.H.sp.length+1:=by simp
  have own2' : Own w2 B 76 10 (.slice R (S.H.sp++[(⟨true,a,c,A,nTs,zTb⟩:PS)]).length M) (S.H.sp++[(⟨true,a,c,A,nTs,zTb⟩:PS)]).length ((S.H.sp++[(⟨true,a,c,A,nTs,zTb⟩:PS)]).flatMap sV):=by rw[hG,fE];simpa using own2
  clear hc hm hs hi ka hD own2 kl
  go_wp2_with (refine aB rfl _ _ _ rfl b 11 _ [.slice R (S.H.sp.length+1) M] rfl rfl rfl _ _ kE (by show 11+1<=13;omega) (by kernel_rfl) (λu hu=>by cases bC.1 hu;rfl) ?_)
  intro w3 kN hy;have h3:fu w3 B b { S.lst al cl G with H:={ S.H with ap:=R,cp:=M,sp:=S.H.sp++[(⟨true,a,c,A,nTs,zTb⟩:PS)] } }:=o.appP hH own2' kz (by rw[hG];exact kN) hy;have s3:MS w b S w3 { S.lst al cl G with H:={ S.H with ap:=R,cp:=M,sp:=S.H.sp++[(⟨true,a,c,A,nTs,zTb⟩:PS)] } }:=hP.app o d (by simp[iQ,MW.lst]) hH hy kx (λx C=>by
   rcases C with C|C
   ·exact .inl (.inl C)
   simp only[iQ,MW.lst,dw,gN,or_false] at C;rcases C with C|C|C|C|C|C|C|C|C<;>first|exact .inr C.symm|exact .inl (.inr (by simp[iQ,MW.lst,C])))
  have kg:S.T.length<=100:=by have U:=kK.out.ok.len;have h8:S.H.ma.sp.length=S.H.sp.length:=fH _;omega
  clear o hP d kE kz own2' kN hy kx hH kr ha;have hc:=h3.blk.cell;unfold jE at hc;dsimp only[MW.lst] at hc;have hC:Own w3 B 69 192 (.slice S.ab S.T.length S.cb) S.T.length (S.T.flatMap tL):=h3.tt
  go_wp2_with (at_builtin;go_must (refine Cs rfl _ _ rfl (by kernel_rfl) B (.slice S.ab S.T.length S.cb) S.T.length (S.T.flatMap tL) rfl hC rfl kg h3.bs ?_))
  intro v4 w4 own4 kp kw;have hO:=(Below.refl w3.heap.size w3).alloc (az _) (.cells (tL (List.replicate 64 zEn)).toArray 69);have ki:=h3.below hO;have s3a:=s3.below hO;have hl:=hC.below hO;have kD:aG w4 b (jE { S.lst al cl G with H:={ S.H with ap:=R,cp:=M,sp:=S.H.sp++[(⟨true,a,c,A,nTs,zTb⟩:PS)] } }) 98:=by
   rcases sF hl kp with hb0|⟨g,cs,hk,_,hg'⟩
   ·exact ki.blk.ext hb0
   ·exact bZ ki.blk hk (by decide) hg'
  obtain⟨Y,V,rfl,_⟩:=own4.rd;have hF:(S.T++[List.replicate 64 zEn]).length=S.T.length+1:=by simp
  have own4' : Own w4 B 69 192 (.slice Y (S.T++[List.replicate 64 zEn]).length V) (S.T++[List.replicate 64 zEn]).length ((S.T++[List.replicate 64 zEn]).flatMap tL):=by rw[hF,fE];simpa using own4
  clear hc h3 s3 hC own4 hO
  go_wp2_with (refine aB rfl _ _ _ rfl b 12 _ [.slice Y (S.T.length+1) V] rfl rfl rfl _ _ kD (by show 12+1<=13;omega) (by kernel_rfl) (λu hu=>by cases bC.1 hu;rfl) ?_)
  intro w5 k5 hr;have h5:fu w5 B b { S.lst al cl G with H:={ S.H with ap:=R,cp:=M,sp:=S.H.sp++[(⟨true,a,c,A,nTs,zTb⟩:PS)] },ab:=Y,cb:=V,T:=S.T++[List.replicate 64 zEn] }:=ki.appT kp own4' (by rw[hF];exact k5) hr;have s5:MS w b S w5 { S.lst al cl G with H:={ S.H with ap:=R,cp:=M,sp:=S.H.sp++[(⟨true,a,c,A,nTs,zTb⟩:PS)] },ab:=Y,cb:=V,T:=S.T++[List.replicate 64 zEn] }:=s3a.app ki hl (by simp[iQ,MW.lst]) kp hr kw (λx C=>by
   rcases C with C|C
   ·exact .inl (.inl C)
   simp only[iQ,MW.lst,dw,gN,or_false] at C;rcases C with C|C|C|C|C|C|C|C|C<;>first|exact .inr C.symm|exact .inl (.inr (by simp[iQ,MW.lst,C])))
  clear ki s3a hl kD own4' k5 hr kw kp;have hL:({ S.lst al cl G with H:={ S.H with ap:=R,cp:=M,sp:=S.H.sp++[(⟨true,a,c,A,nTs,zTb⟩:PS)] },ab:=Y,cb:=V,T:=S.T++[List.replicate 64 zEn] }:MW).H.ma = { S.H.ma with sp:=S.H.ma.sp++[⟨true,A,zTb⟩] }:=by simp[MH.ma,PS.sp]
  have kf:Bd ({ S.lst al cl G with H:={ S.H with ap:=R,cp:=M,sp:=S.H.sp++[(⟨true,a,c,A,nTs,zTb⟩:PS)] },ab:=Y,cb:=V,T:=S.T++[List.replicate 64 zEn] }:MW).H.ma ({ S.lst al cl G with H:={ S.H with ap:=R,cp:=M,sp:=S.H.sp++[(⟨true,a,c,A,nTs,zTb⟩:PS)] },ab:=Y,cb:=V,T:=S.T++[List.replicate 64 zEn] }:MW).T:=by rw[hL];exact kK.out.more (s:=⟨true,A,zTb⟩) (by show (S.H.sp.map PS.sp).length<4;rw[fH];exact hl4) rfl hA.out.1
  have hE:Hid (More S { S.lst al cl G with H:={ S.H with ap:=R,cp:=M,sp:=S.H.sp++[(⟨true,a,c,A,nTs,zTb⟩:PS)] },ab:=Y,cb:=V,T:=S.T++[List.replicate 64 zEn] }):=ae ⟨kf,λp hp n g hg=>by
   rcases gP.1 hp with hp|hp
   ·exact gl.out p hp n g hg
   rw[bC.1 hp] at hg;exact hA.out.2.1 n g hg,rfl,rfl,rfl,by simp,rfl⟩
  have k8:S.T.length=S.H.sp.length:=by have U:=kK.out.ok.len;have h8:S.H.ma.sp.length=S.H.sp.length:=fH _;omega
  have kJ:Hid (∀j:Nat,(fO ({ S.lst al cl G with H:={ S.H with ap:=R,cp:=M,sp:=S.H.sp++[(⟨true,a,c,A,nTs,zTb⟩:PS)] },ab:=Y,cb:=V,T:=S.T++[List.replicate 64 zEn] }:MW).T S.H.sp.length j).k=0):=ae λj=>by unfold fO fI;rw[aX (l:=S.T++_),jU (by omega),<-k8,qh];show ((List.replicate 64 zEn).getD j zEn).k=0;rw[aX,pV];split<;>rfl
  have kG:Hid (dD ({ S.lst al cl G with H:={ S.H with ap:=R,cp:=M,sp:=S.H.sp++[(⟨true,a,c,A,nTs,zTb⟩:PS)] },ab:=Y,cb:=V,T:=S.T++[List.replicate 64 zEn] }:MW).H.ma S.H.sp.length=⟨true,A,zTb⟩):=ae (by rw[hL];unfold dD;have h8:S.H.ma.sp.length=S.H.sp.length:=fH _;rw[aX,jU (by omega),h8,qh];rfl);have hX:∀W,fu W B b { S.lst al cl G with H:={ S.H with ap:=R,cp:=M,sp:=S.H.sp++[(⟨true,a,c,A,nTs,zTb⟩:PS)] },ab:=Y,cb:=V,T:=S.T++[List.replicate 64 zEn] }->dZ W a (A.flatMap mO):=λW hW=>(uI (hW.ma.ps (⟨true,a,c,A,nTs,zTb⟩:PS) (uM _ (bC.2 rfl))).1).rd;have kH:Hid (({ S.lst al cl G with H:={ S.H with ap:=R,cp:=M,sp:=S.H.sp++[(⟨true,a,c,A,nTs,zTb⟩:PS)] },ab:=Y,cb:=V,T:=S.T++[List.replicate 64 zEn] }:MW).H.sp.length=S.H.sp.length+1):=ae (by simp);have gh:Hid (S.l=[]->A=[]/\({ S.lst al cl G with H:={ S.H with ap:=R,cp:=M,sp:=S.H.sp++[(⟨true,a,c,A,nTs,zTb⟩:PS)] },ab:=Y,cb:=V,T:=S.T++[List.replicate 64 zEn] }:MW).l=[]/\({ S.lst al cl G with H:={ S.H with ap:=R,cp:=M,sp:=S.H.sp++[(⟨true,a,c,A,nTs,zTb⟩:PS)] },ab:=Y,cb:=V,T:=S.T++[List.replicate 64 zEn] }:MW).H.ma = { S.H.ma with sp:=S.H.ma.sp++[⟨true,[],zTb⟩] }/\({ S.lst al cl G with H:={ S.H with ap:=R,cp:=M,sp:=S.H.sp++[(⟨true,a,c,A,nTs,zTb⟩:PS)] },ab:=Y,cb:=V,T:=S.T++[List.replicate 64 zEn] }:MW).T=S.T++[List.replicate 64 zEn]):=ae λe=>by
   have U:=kS.out e;have gk:k=0:=by omega
   have h8:=hA.out.2.2 gk;refine⟨h8.1,by show G=[];rw[h8.2];exact U.2,?_,rfl⟩;rw[hL,h8.1]
  have ky:=hX _ h5;have ks:∀S9:MW,S9.H.sp=S.H.sp++[(⟨true,a,c,A,nTs,zTb⟩:PS)]->S9.H.sp.length=S.H.sp.length+1:=λS9 e=>by rw[e];simp
  have kt:({ S.lst al cl G with H:={ S.H with ap:=R,cp:=M,sp:=S.H.sp++[(⟨true,a,c,A,nTs,zTb⟩:PS)] },ab:=Y,cb:=V,T:=S.T++[List.replicate 64 zEn] }:MW).H.sp=S.H.sp++[(⟨true,a,c,A,nTs,zTb⟩:PS)]:=rfl;clear hL hX k8;generalize ({ S.lst al cl G with H:={ S.H with ap:=R,cp:=M,sp:=S.H.sp++[(⟨true,a,c,A,nTs,zTb⟩:PS)] },ab:=Y,cb:=V,T:=S.T++[List.replicate 64 zEn] }:MW)=S5 at *
  have kd:=ks S5 kt;have kY:S5.H.fi=S.H.fi:=hE.out.fi;have kQ:srtF 0 A:=nG (jM.1 hA.out.1).2;have hV:=ae kQ;have hc:=h5.blk.cell;unfold jE at hc;rw[kd] at hc;have gf:IntKind.i64.wrap (((S.H.sp.length+1:Nat):Int)-1)=(S.H.sp.length:Int):=by rw[bG _ (by omega)];omega
  have kL:=ae kf;clear kf kQ ks kd kY kt kg hF hG
  go_wp2_with fail
  refine (sG A a c _ ky (by omega) (λx C=>(srtF_ok hV.out x C).1)).mono ?_;rintro r w6 ⟨rfl,kM⟩;have h6:=h5.below kM;have s6:=s5.below kM;have kj:=ae kH;clear h5 s5 hc ky gf kM;go_upto_region 15 with (fail)
  go_loopw [92] (fun i wr => ∃(n:Nat) (Sn:MW),n<=64/\i = .int .i64 n/\fu wr B b Sn/\MS w b S wr Sn/\Hid (JG S5 Sn/\Bd Sn.H.ma Sn.T/\(∀j:Nat,n<=j->(fO Sn.T S.H.sp.length j).k=0)/\(A=[]->Sn=S5))) (fun i _=>64-(intOf i).toNat)
  case atStart=>exact⟨0,S5,aZ _,rfl,h6,s6,ae ⟨.refl _,kL.out,λj _=>kJ.out j,λ_=>rfl⟩⟩
  case round=>
   clear h6 s6;obtain⟨n,Sn,I,rfl,hm,hs,hN⟩:=hrel
   by_cases hn64:n<64
   ·have gi:(n:Int)<64:=by omega
    cases hfk:dz A n with
    | none=>
     have hQ:=Dr (dz A) n hn64 none hfk;unfold yK oR oW oH oF oP at hQ;have kB:=ae hfk;clear hfk;go_upto_region 17 with (fail);refine iC (λW=>Code.wp _ _ _ _ W) λW1 hz hB hP => ?_;have hR:=hB.cell;have o:=hm.below hz;have kk:=hs.below hz;clear hP hz hm hs hQ;go_wp2;go_roundw
     case rel=>exact⟨n+1,Sn,by omega,by go_num,o,kk,ae ⟨hN.out.1,hN.out.2.1,λj hj=>hN.out.2.2.1 j (by omega),hN.out.2.2.2⟩⟩
     case measure=>simp[intOf];omega
    | some g=>
     have hQ:=Dr (dz A) n hn64 (some g) hfk;unfold yK oR oW oH oF oP at hQ;dsimp only[Option.isSome] at hQ;have kB:=ae hfk;clear hfk;go_upto_region 17 with (fail);refine iC (λW=>Code.wp _ _ _ _ W) λW1 hz hB hP => ?_;have hR:=hB.cell;have o:=hm.below hz;have kk:=hs.below hz;clear hP hz hm hs hQ;have kI:onA A n=some g:=by rw[<-rX hV.out];exact kB.out
     have kU:=pg_in hV.out kI;have ke:=ae kI;have kA:=ae kU;have kR:Hid (dD Sn.H.ma S.H.sp.length=⟨true,A,zTb⟩):=ae (by rw[<-kG.out];show (Sn.H.sp.map PS.sp).getD _ zSp=(S5.H.sp.map PS.sp).getD _ zSp;rw[hN.out.1.sp]);clear kI kU
     go_wp2_with (refine ay _ _ rfl wr.heap.size 0 rfl rfl _ hB.rd _ underlying80 rfl one_size ?_)
     refine (Mo Sn S.H.sp.length n g B b _ o hN.out.2.1 (by rw[hN.out.1.sp,kj.out.out];omega) hn64 (hN.out.2.2.1 n (az _)) (by rw[kR.out];exact ke.out) (by rw[hN.out.1.fi,hE.out.fi];exact hA.out.2.1 _ _ ke.out) kA.out.1 (λh=>by
      rcases Int.lt_or_le g.fi 0 with U|U
      ·have:=(kA.out.2.2.2.2.1 U).1;rw[h] at this;simp at this
      ·exact U)).mono ?_
     rintro r w7 ⟨S7,rfl,h7,s7,k7,bd7,ent7⟩;have gg:=kk.trans s7;have gn:Hid (JG S5 S7/\Bd S7.H.ma S7.T/\(∀j:Nat,n+1<=j->(fO S7.T S.H.sp.length j).k=0)/\(A=[]->S7=S5)):=ae ⟨hN.out.1.trans k7,bd7,λj hj=>by rw[ent7 _ _ (by omega)];exact hN.out.2.2.1 j (by omega),λe=>by have U:=ke.out;rw[e] at U;cases U⟩;clear o kk s7 k7 bd7 ent7 hB hR;go_wp2;go_roundw
     case rel=>exact⟨n+1,S7,by omega,by go_num,h7,gg,gn⟩
     case measure=>simp[intOf];omega
   have gi:¬(n:Int)<64:=by omega
   go_wp2;refine bodyPost_ret (v:=.tuple #[]) (by simp[results,go_sem,results37]) rfl ?_;have hK:=hN.out.1;have hM:=hE.out;refine⟨Sn,rfl,hm,hs,⟨hN.out.2.1,λp hp n g hg => ?_,hK.fi.trans hM.fi,hK.ct.trans hM.ct,hK.dk.trans hM.dk,by rw[hK.sp];exact hM.sp,hK.fl.trans hM.fs⟩,λe => ?_⟩
   ·rw[hK.sp] at hp;rw[hK.fi];exact hM.fm p hp n g hg
   have U:=gh.out e;rw[hN.out.2.2.2 U.1];exact U.2
theorem fu.putD {S:MW} (h:fu w B b S) (f:aG w g cs 58) (s:B<=g) (n:oB S.H.db=some g) (d:w.grownBy w' (some g)) {l:List Page} (A:l.length=S.H.dk.blocks.length) (z:Own w' B 58 8 (.slice S.H.db l.length S.H.cdb) l.length (l.flatMap CV)) :
    fu w' B b { S with H:={ S.H with dk:=⟨l,S.H.dk.queue⟩ } }:=
  ⟨by
    have C:=bZ h.blk f (by decide) d;have e:jE { S with H:={ S.H with dk:=⟨l,S.H.dk.queue⟩ } }=jE S:=by unfold jE;rw[show ({ S.H with dk:=⟨l,S.H.dk.queue⟩ }:MH).dk.blocks.length=S.H.dk.blocks.length from A]
    rw[e];exact C,h.ge,
   ⟨ax h.ma.fr f (by decide) d,ax h.ma.sl f (by decide) d,⟨h.ma.sw.b.grown d (λD j e=>by cases e;rw[jA] at j;exact h.n1 _ j n),ax h.ma.sw.q f (by decide) d⟩,⟨z,ax h.ma.dk.q f (by decide) d⟩,h.ma.st.keep f (by decide) (by decide) d,ax h.ma.ca f (by decide) d,ax h.ma.sp f (by decide) d,λp u=>⟨ax (h.ma.ps p u).1 f (by decide) d,(h.ma.ps p u).2.keep f (by decide) d⟩,h.ma.c64⟩,
   ax h.tt f (by decide) d,h.rd.keep h.ra h.bs d s,h.ra,h.n1,h.n2,h.n3⟩
theorem fu.appQ {S:MW} (h:fu w B b S) (Y:w.grownBy w1 (Value.slice S.H.dq S.H.dk.queue.length S.H.cdq).ownBlock) {l:List (Int × Page)} (V:Own w1 B 105 9 (.slice a l.length c) l.length (l.flatMap zx))
 (Z:aG w2 b (bI (jE S) 7 [.slice a l.length c]) 98) (j:w1.grownBy w2 (some b)) :
  fu w2 B b { S with H:={ S.H with dq:=a,cdq:=c,dk:=⟨S.H.dk.blocks,l⟩ } }:=by
 have d:Own w B 105 9 (.slice S.H.wq S.H.sw.queue.length S.H.cwq) S.H.sw.queue.length (S.H.sw.queue.flatMap zx):=h.ma.sw.q;have A:aG w1 b (jE S) 98/\Own w1 B 66 13 (.slice S.H.af S.H.m.fs.length S.H.cf) S.H.m.fs.length (S.H.m.fs.flatMap pG)/\Own w1 B 3 1 (.slice S.H.asl S.H.sl.length S.H.csl) S.H.sl.length (S.H.sl.map fZ) /\
   ng w1 B (.slice S.H.wb S.H.sw.blocks.length S.H.cwb) (.slice S.H.wq S.H.sw.queue.length S.H.cwq) S.H.sw/\Own w1 B 58 8 (.slice S.H.db S.H.dk.blocks.length S.H.cdb) S.H.dk.blocks.length (S.H.dk.blocks.flatMap CV)/\qC w1 B (.slice S.H.ai S.H.fi.length S.H.ci) S.H.fi /\
   Own w1 B 122 3 (.slice S.H.ac S.H.ca.length S.H.cc) S.H.ca.length (S.H.ca.flatMap iK)/\Own w1 B 76 10 (.slice S.H.ap S.H.sp.length S.H.cp) S.H.sp.length (S.H.sp.flatMap sV) /\
   (∀p∈S.H.sp,Own w1 B 94 7 (.slice p.aa p.ar.length p.ac) p.ar.length (p.ar.flatMap mO)/\rJ w1 B (oh p.ts) p.tb)/\Own w1 B 69 192 (.slice S.ab S.T.length S.cb) S.T.length (S.T.flatMap tL)/\ve w1 S.al S.cl S.l.length (S.l.map CQ):=by
  rcases sF h.ma.dk.q Y with E|⟨g,cs,s,D,f⟩
  ·have u:=h.below E;exact⟨u.blk,u.ma.fr,u.ma.sl,u.ma.sw,u.ma.dk.b,u.ma.st,u.ma.ca,u.ma.sp,u.ma.ps,u.tt,u.rd⟩
  ·exact⟨bZ h.blk s (by decide) f,ax h.ma.fr s (by decide) f,ax h.ma.sl s (by decide) f,⟨ax h.ma.sw.b s (by decide) f,d.grown f (λg' G=>by rw[h.n3] at G;cases G)⟩,ax h.ma.dk.b s (by decide) f,h.ma.st.keep s (by decide) (by decide) f,ax h.ma.ca s (by decide) f,ax h.ma.sp s (by decide) f,λp z=>⟨ax (h.ma.ps p z).1 s (by decide) f,(h.ma.ps p z).2.keep s (by decide) f⟩,ax h.tt s (by decide) f,h.rd.keep h.ra h.bs f (iY h.ma.dk.q D).1⟩
 obtain⟨n,k1,U,R,N,M,K,J,F,I,C⟩:=A;exact⟨Z,h.ge,⟨ax k1 n (by decide) j,ax U n (by decide) j,R.keep n (by decide) (by decide) j,⟨ax N n (by decide) j,ax V n (by decide) j⟩,M.keep n (by decide) (by decide) j,ax K n (by decide) j,ax J n (by decide) j,λp z=>⟨ax (F p z).1 n (by decide) j,(F p z).2.keep n (by decide) j⟩,h.ma.c64⟩,
  ax I n (by decide) j,C.keep h.ra (bi h.ge (qZ n.lt)) j h.ge,h.ra,h.n1,h.n2,h.n3⟩
theorem fu.appFi {S:MW} (h:fu w B b S) {p:PF} (u:Own w B 3 1 (nT p) p.l.length (p.l.map fZ)) (I:∀(i:Nat) q,S.H.fi[i]?=some q->Apart (nT q) (nT p)) (A:∀x,oB p.a=some x->oB S.H.asl≠some x)
 (K:w.grownBy w1 (Value.slice S.H.ai S.H.fi.length S.H.ci).ownBlock) (Z:Own w1 B 101 2 (.slice a (S.H.fi++[p]).length c) (S.H.fi.length+1) (S.H.fi.flatMap qW++qW p))
 (hb:aG w2 b (bI (jE S) 8 [.slice a (S.H.fi++[p]).length c]) 98) (d:w1.grownBy w2 (some b)):fu w2 B b { S with H:={ S.H with ai:=a,ci:=c,fi:=S.H.fi++[p] } }:=by
 have hF:qC w1 B (.slice a (S.H.fi++[p]).length c) (S.H.fi++[p]):=h.ma.st.app Z u K I;have C:aG w1 b (jE S) 98/\Own w1 B 66 13 (.slice S.H.af S.H.m.fs.length S.H.cf) S.H.m.fs.length (S.H.m.fs.flatMap pG)/\Own w1 B 3 1 (.slice S.H.asl S.H.sl.length S.H.csl) S.H.sl.length (S.H.sl.map fZ) /\
   ng w1 B (.slice S.H.wb S.H.sw.blocks.length S.H.cwb) (.slice S.H.wq S.H.sw.queue.length S.H.cwq) S.H.sw/\ng w1 B (.slice S.H.db S.H.dk.blocks.length S.H.cdb) (.slice S.H.dq S.H.dk.queue.length S.H.cdq) S.H.dk /\
   Own w1 B 122 3 (.slice S.H.ac S.H.ca.length S.H.cc) S.H.ca.length (S.H.ca.flatMap iK)/\Own w1 B 76 10 (.slice S.H.ap S.H.sp.length S.H.cp) S.H.sp.length (S.H.sp.flatMap sV) /\
   (∀p∈S.H.sp,Own w1 B 94 7 (.slice p.aa p.ar.length p.ac) p.ar.length (p.ar.flatMap mO)/\rJ w1 B (oh p.ts) p.tb)/\Own w1 B 69 192 (.slice S.ab S.T.length S.cb) S.T.length (S.T.flatMap tL)/\ve w1 S.al S.cl S.l.length (S.l.map CQ):=by
  rcases sF h.ma.st.own K with G|⟨g,cs,n,F,f⟩
  ·have s:=h.below G;exact⟨s.blk,s.ma.fr,s.ma.sl,s.ma.sw,s.ma.dk,s.ma.ca,s.ma.sp,s.ma.ps,s.tt,s.rd⟩
  ·exact⟨bZ h.blk n (by decide) f,ax h.ma.fr n (by decide) f,ax h.ma.sl n (by decide) f,h.ma.sw.keep n (by decide) (by decide) f,h.ma.dk.keep n (by decide) (by decide) f,ax h.ma.ca n (by decide) f,ax h.ma.sp n (by decide) f,λp u=>⟨ax (h.ma.ps p u).1 n (by decide) f,(h.ma.ps p u).2.keep n (by decide) f⟩,ax h.tt n (by decide) f,h.rd.keep h.ra h.bs f (iY h.ma.st.own F).1⟩
 obtain⟨j,k1,Y,V,U,R,N,J,M,D⟩:=C;exact⟨hb,h.ge,⟨ax k1 j (by decide) d,ax Y j (by decide) d,V.keep j (by decide) (by decide) d,U.keep j (by decide) (by decide) d,hF.keep j (by decide) (by decide) d,ax R j (by decide) d,ax N j (by decide) d,λp u=>⟨ax (J p u).1 j (by decide) d,(J p u).2.keep j (by decide) d⟩,h.ma.c64⟩,
  ax M j (by decide) d,D.keep h.ra (bi h.ge (qZ j.lt)) d h.ge,h.ra,h.n1,λq z x E=>by
   rcases gP.1 z with z|z
   ·exact h.n2 q z x E
   rw[bC.1 z] at E;exact A x E,h.n3⟩
theorem fu.putP {S:MW} (h:fu w B b S) (f:aG w g cs 76) (n:B<=g) (d:w.grownBy w' (some g)) (z:sp.length=S.H.sp.length) (u:Own w' B 76 10 (.slice S.H.ap sp.length S.H.cp) sp.length (sp.flatMap sV))
 (j:∀p∈sp,Own w B 94 7 (.slice p.aa p.ar.length p.ac) p.ar.length (p.ar.flatMap mO)/\rJ w B (oh p.ts) p.tb):fu w' B b { S with H:={ S.H with sp:=sp } }:=
  ⟨by
    have A:=bZ h.blk f (by decide) d;have e:jE { S with H:={ S.H with sp:=sp } }=jE S:=by unfold jE;rw[show ({ S.H with sp:=sp }:MH).sp.length=S.H.sp.length from z]
    rw[e];exact A,h.ge,
   ⟨ax h.ma.fr f (by decide) d,ax h.ma.sl f (by decide) d,h.ma.sw.keep f (by decide) (by decide) d,h.ma.dk.keep f (by decide) (by decide) d,h.ma.st.keep f (by decide) (by decide) d,ax h.ma.ca f (by decide) d,u,λp s=>⟨ax (j p s).1 f (by decide) d,(j p s).2.keep f (by decide) d⟩,h.ma.c64⟩,
   ax h.tt f (by decide) d,h.rd.keep h.ra h.bs d n,h.ra,h.n1,h.n2,h.n3⟩
theorem fu.setH {S:MW} (h:fu w B b S) {x:Int} (f:aG w' b (bI (jE S) 2 [.int .i64 x]) 98) (d:w.grownBy w' (some b)):fu w' B b { S with H:={ S.H with m:=⟨S.H.m.fs,x⟩ } }:=
  ⟨f,h.ge,
   have k:=h.ma.keep h.blk (by decide) d
   ⟨k.fr,k.sl,k.sw,k.dk,k.st,k.ca,k.sp,k.ps,k.c64⟩,ax h.tt h.blk (by decide) d,h.rd.keep h.ra h.bs d h.ge,h.ra,h.n1,h.n2,h.n3⟩
end Go.Proofs.YthihaopabbpalaaGreat
namespace Pw
open Go Go.RowKit
variable {P:Program} {Q:Exit -> Act -> World -> Prop} {a0:Act} {id:Nat} {ops:Array Oper} {rest:List Oper} {t0:Array Value} {w0:World}
theorem Ue (m:Nat) (l:List mQ) (J:(Nat->Bool)->(Nat->Value)->World->Prop) (u:∀L y w w',Below w.heap.size w w'->J L y w->J L y w') (C:∀y,J (λ_=>false) y w0) (f:Fixed l) (I:P.follows .mixedOrders=true) (ops' : Array Oper) (F:dh ops=ops') (z:jX ops' = true) (E:jb ops' m=true) (A:m<=ops'.size)
 (n:Nat) (G:a0.tmps.size=n) (s:kU ops' n=true)
 (d:bn (nu P ops' a0 J l) 0 (ops'.toList.take m))
 (j:∀y w,J (λi=>decide (i<m)) y w->(∀i,i<m->rl l i (y i) w)->wpList P ops' Q (ops'.toList.drop m) { a0 with tmps:=lay (λi=>decide (i<m)) y ops'.toList 0 a0.tmps } w) :
  (Code.region id ops true).wp P Q a0 w0:=by
 refine wp_region_any I (yu _ _ _ _ ?_);have D:=He m l J u C f z E A n G s d j;subst F;rw[wG] at D;exact D
theorem yl {s:List Deferred} (m:Nat) (l:List RV) (J:(Nat->Bool)->(Nat->Value)->World->Prop) (z:∀L y w w',Below w.heap.size w w'->J L y w->J L y w') (E:∀y,J (λ_=>false) y w0)
 (d:bn (nu P (dh ops) ⟨t0,s⟩ J (rvs l)) 0 ((dh ops).toList.take m)) {F:(Nat->Value)->List Value} (M:∀y,zn y l (dh ops).toList t0.toList=some (F y)) (N:wr ((dh ops).toList.drop m)=some rest)
 (n:∀y w,J (λi=>decide (i<m)) y w->(∀i,i<m->rl (rvs l) i (y i) w)->wpList P (dh ops) Q rest ⟨(F y).toArray,s⟩ w)
 (j:Fixed (rvs l):=by repeat (first | exact fix_nil | refine KW (λ_ _ _ h=>h) ?_))
 (K:P.follows .mixedOrders=true:=by kernel_rfl) (A:jX (dh ops)=true:=by kernel_rfl) (I:jb (dh ops) m=true:=by kernel_rfl) (f:m<=(dh ops).size:=by decide) (C:l.length=m:=by rfl) (D:idxOk l 0=true:=by kernel_rfl)
 (u:kU (dh ops) t0.size=true:=by kernel_rfl):(Code.region id ops true).wp P Q ⟨t0,s⟩ w0:=by
 refine Ue m (rvs l) J z E j K (dh ops) rfl A I f _ rfl u d λy w R G => ?_;have h:=n y w R G;rw[OC N];show wpList P (dh ops) Q rest ⟨lay (λi=>decide (i<m)) y (dh ops).toList 0 t0,s⟩ w;rw[QK D C f G (M y)];exact h
end Pw
namespace Go.Proofs.YthihaopabbpalaaGreat
open _root_.Go.Proofs.Tryz
open Go.RowKit Go.Maps Pw
variable {L:Nat -> Bool} {P:Program} {i:Nat} {o op:Oper} {ops:Array Oper} {w w':World} {y:Nat -> Value} {ρ:Operand -> Value}
theorem Ik (d:TypeId) (x y:Operand) (F:op.op = .store d x y)
 (b o:Nat) (v:Value) (cells:List Value) (C:ρ x = .pointer (some ⟨b,o,none⟩)) (A:ρ y=v) (z:v.cells.toList=cells) (cur:Array Value) (T:TypeId) (n:aG w b cur T)
 (s:o+cells.length<=cur.size) (f:(P.info? d).map (·.size)=some cells.length) (I:∀u∈cells,u.oneCell' = true):(execOp ρ op).run P w = .ok .skip (w.setCells b o cells):=by
 have a:=run_storeCells_cells (P:=P) b o cells 0 w
  (λj G=>by rw[iJ,n.cell];simp[show o+j<cur.size by omega]) (λj G=>n.free _) I
 simp only[iJ] at a;have c:(storeVar d ⟨b,o,none⟩ v).run P w = .ok () (w.setCells b o cells):=by
  cases hq:P.info? d with
  | none=>simp[hq] at f
  | some i=>
   have E:i.size=cells.length:=by simpa[hq] using f
   have D:v.cells.size=cells.length:=by rw[<-z];simp
   simp[storeVar,Go.sizeOf,typeInfo,hq,E,D,z,a]
 unfold execOp;simp only[F,C,A,Instr.storeAt,Instr.sureAddr,kW,qP,qK,c]
theorem Bu {l:List mQ} {J:(Nat->Bool)->(Nat->Value)->World->Prop} (f:Region.wanted o (gW ρ ops)=true) (d:(execOp ρ o).run P w = .ok .skip w')
 (n:J (dO L i) (fq y i undef) w') (j:rl l i undef w') :
  if Region.wanted o (gW ρ ops)=true then dS P o ρ w (λv w'=>J (dO L i) (fq y i v) w'/\rl l i v w') else J (dO L i) (fq y i undef) w/\rl l i undef w:=by
 rw[if_pos f];unfold dS;rw[d];exact⟨n,j⟩
end Go.Proofs.YthihaopabbpalaaGreat