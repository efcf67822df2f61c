import Derived.Test.YtjkkoeijlhfneaaGreatU5
import Derived.BigRegion
set_option linter.unusedSimpArgs false
set_option linter.unusedVariables false
set_option maxHeartbeats 4000000
set_option maxRecDepth 100000
namespace Go.Proofs.YtjkkoeijlhfneaaGreat
open Go.RowKit Go.Maps Pw
structure Fb (ct:Nat) (bl:List Page) (q:List (Int × Page)) (fs:List Fi) (x:List Int):Prop where
 cl:bl.length=ct∧ct≤80
 ok:∀f∈fs,wU ct f
 nd:(lZ (fs.flatMap Fi.b++x)).Nodup
 xb:∀b∈x,-1≤b∧b<ct
 tr:∀b:Int,0≤b→b<ct→b∈fs.flatMap Fi.b++x∨bl.getD b.toNat zPg=zPg
 qb:∀p∈q,p.1∈fs.flatMap Fi.b++x∧0≤p.1∧p.1<ct
 ql:q.length≤12*fs.length+x.length
theorem Fb.start {ct:Nat} (h:ct≤80):Fb ct (List.replicate ct zPg) [] [] [] where
 cl:=⟨by simp,h⟩
 ok:=fun f hf=>by cases hf
 nd:=by simp[lZ]
 xb:=fun b hb=>by cases hb
 tr:=fun b h0 h1 => .inr (by rw[List.getD_eq_getElem?_getD,List.getElem?_replicate,if_pos (by omega)];rfl)
 qb:=fun p hp=>by cases hp
 ql:=by simp
theorem Fb.none {ct:Nat} {bl:List Page} {q:List (Int × Page)} {fs:List Fi} {x:List Int} (h:Fb ct bl q fs x):Fb ct bl q fs (x++[-1]) where
 cl:=h.cl
 ok:=h.ok
 nd:=by
  have e:lZ (fs.flatMap Fi.b++(x++[-1]))=lZ (fs.flatMap Fi.b++x):=by rw[←List.append_assoc,xn];simp[lZ]
  rw[e];exact h.nd
 xb:=fun b hb=>by
  rcases List.mem_append.1 hb with hb|hb
  ·exact h.xb b hb
  ·rw[List.mem_singleton.1 hb];omega
 tr:=fun b h0 h1=>(h.tr b h0 h1).imp (fun hb=>by rw[←List.append_assoc];exact List.mem_append_left _ hb) id
 qb:=fun p hp=>⟨by rw[←List.append_assoc];exact List.mem_append_left _ (h.qb p hp).1,(h.qb p hp).2⟩
 ql:=by have:=h.ql;simp;omega
theorem Fb.some {ct:Nat} {bl:List Page} {q:List (Int × Page)} {fs:List Fi} {x:List Int} (h:Fb ct bl q fs x) {n:Nat} (hn:n<ct) (hu:¬(n:Int)∈fs.flatMap Fi.b++x) (P:Page):Fb ct (bl.set n P) q fs (x++[(n:Int)]) where
 cl:=⟨by rw[List.length_set];exact h.cl.1,h.cl.2⟩
 ok:=h.ok
 nd:=by
  have e:lZ (fs.flatMap Fi.b++(x++[(n:Int)]))=lZ (fs.flatMap Fi.b++x)++[(n:Int)]:=by rw[←List.append_assoc,xn];simp[lZ]
  rw[e]
  refine List.nodup_append.2 ⟨h.nd,by simp,fun a ha b hb e => ?_⟩
  rw[List.mem_singleton.1 hb] at e
  subst e
  exact hu (kN.1 ha).1
 xb:=fun b hb=>by
  rcases List.mem_append.1 hb with hb|hb
  ·exact h.xb b hb
  ·rw[List.mem_singleton.1 hb];omega
 tr:=fun b h0 h1=>by
  by_cases e:b=(n:Int)
  ·subst e;exact .inl (by simp)
  ·rcases h.tr b h0 h1 with hb|hb
   ·exact .inl (by rw[←List.append_assoc];exact List.mem_append_left _ hb)
   ·refine .inr ?_
    rw[List.getD_eq_getElem?_getD,List.getElem?_set_ne (by omega),←List.getD_eq_getElem?_getD]
    exact hb
 qb:=fun p hp=>⟨by rw[←List.append_assoc];exact List.mem_append_left _ (h.qb p hp).1,(h.qb p hp).2⟩
 ql:=by have:=h.ql;simp;omega
theorem Fb.wait {ct:Nat} {bl:List Page} {q:List (Int × Page)} {fs:List Fi} {x:List Int} (h:Fb ct bl q fs x) {n:Nat} (hn:n<ct) (hu:¬(n:Int)∈fs.flatMap Fi.b++x) (P:Page):Fb ct (bl.set n P) (q++[((n:Int),P)]) fs (x++[(n:Int)]):=
 have k:=h.some hn hu P
 { k with
  qb:=fun p hp=>by
   rcases List.mem_append.1 hp with hp|hp
   ·exact k.qb p hp
   ·rw[List.mem_singleton.1 hp]
    exact⟨by simp,by show (0:Int)≤n;omega,by show (n:Int)<ct;omega⟩
  ql:=by have:=h.ql;simp;omega }
theorem Fb.file {ct:Nat} {bl:List Page} {q:List (Int × Page)} {fs:List Fi} {x:List Int} (h:Fb ct bl q fs x) {s:Int} (h0:0≤s) (h1:s≤96) (hl:(x.length:Int)=dA s):Fb ct bl q (fs++[⟨s,x⟩]) []:=by
 have e:(fs++[(⟨s,x⟩:Fi)]).flatMap Fi.b++[]=fs.flatMap Fi.b++x:=by simp
 refine⟨h.cl,fun f hf => ?_,by rw[e];exact h.nd,fun b hb=>(by cases hb),by rw[e];exact h.tr,by rw[e];exact h.qb,?_⟩
 ·rcases List.mem_append.1 hf with hf|hf
  ·exact h.ok f hf
  ·rw[List.mem_singleton.1 hf];exact⟨h0,h1,hl,h.xb⟩
 ·have:=h.ql
  have e2:dA s≤12:=by unfold dA;split<;>omega
  have e3:(fs++[(⟨s,x⟩:Fi)]).length=fs.length+1:=by simp
  rw[e3]
  simp only[List.length_nil]
  omega
def tJ (f s ct:Nat) (bl:List Page) (q:List (Int × Page)) (fs:List Fi):Ma:=⟨⟨List.replicate f frZ,0⟩,List.replicate s 0,⟨List.replicate s zPg,[]⟩,⟨bl,q⟩,⟨fs,ct⟩,[],[]⟩
theorem Fb.bd {f s ct:Nat} {bl:List Page} {q:List (Int × Page)} {fs:List Fi} (h:Fb ct bl q fs []) (hl:fs.length≤5) (hf:f≤40) (hs:s≤60):Bd (tJ f s ct bl q fs) []:=by
 have hfr:∀i,i<f→bB (tJ f s ct bl q fs) i=frZ:=fun i hi=>by
  unfold bB tJ
  rw[List.getD_eq_getElem?_getD,List.getElem?_replicate,if_pos hi];rfl
 have hen:∀p n,(ent (tJ f s ct bl q fs) p n).k=0:=fun p n=>by
  unfold ent
  rw[iZ (by simp[tJ])]
  show (cB zTb n).k=0
  rw[kD];rfl
 have hw:aR ⟨fs,(ct:Int)⟩=0:=mi.2 ⟨⟨hl,by show (0:Int)≤ct;omega,by show (ct:Int)≤80;have:=h.cl.2;omega⟩,h.ok,by have:=h.nd;rw[List.append_nil] at this;exact this⟩
 have hdk:bK ⟨bl,q⟩=0:=(jU _).2 ⟨by show bl.length≤80;have:=h.cl;omega,by show q.length≤400;have:=h.ql;simp only[List.length_nil] at this;omega,fun x hx=>by
  have:=(h.qb x hx).2
  have e:bl.length=ct:=h.cl.1
  show 0≤x.1∧x.1<(bl.length:Int)
  omega⟩
 have hsw:bK ⟨List.replicate s zPg,[]⟩=0:=(jU _).2 ⟨by simp;omega,by simp,fun x hx=>(by cases hx)⟩
 have hsl:dn (List.replicate s (0:Int))=0:=yn (by simp;exact hs) fun x hx=>by
  rw[(List.mem_replicate.1 hx).2];decide
 have hm:di ⟨List.replicate f frZ,0⟩=0:=(eB _).2 ⟨by simp;exact hf,fun x hx=>by rw[(List.mem_replicate.1 hx).2];decide,Int.le_refl _,.inl rfl⟩
 have hmm:dh (tJ f s ct bl q fs) []=tJ f s ct bl q fs:=rfl
 have hh:∀kd i,bX (tJ f s ct bl q fs) kd i=0:=fun _ _=>rfl
 have hc:∀i,sW (tJ f s ct bl q fs) i=0:=fun _=>rfl
 refine⟨⟨rfl,fun t ht=>(by cases ht),fun t ht=>(by cases ht)⟩,?_,?_⟩
 ·rw[hmm]
  refine⟨⟨hm,hsl,hsw,hdk,hw,by simp[tJ],by have:=h.cl.1;show (bl.length:Int)=ct;omega,by simp[tJ],fun s hs=>(by cases hs),fun s hs=>(by cases hs)⟩,⟨fun b h0 h1 => ?_,fun p hp => ?_⟩,fun p _=>⟨by rw[iZ (by simp[tJ])];rfl,fun n=>hen p n⟩,⟨fun c hc=>(by cases hc),fun c hc=>(by cases hc),fun c hc=>(by cases hc),List.Pairwise.nil⟩,fun p n hk=>absurd (hen p n) hk,fun i hi => ?_,fun i hi h0 => ?_,fun i hi => ?_⟩
  ·have e:(tJ f s ct bl q fs).dk.blocks.length=ct:=h.cl.1
   have:=h.tr b h0 (by omega)
   rw[List.append_nil] at this
   exact this
  ·have:=(h.qb p hp).1
   rw[List.append_nil] at this
   exact this
  ·rw[hfr i (by have e:(tJ f s ct bl q fs).m.fs.length=f:=List.length_replicate;omega),hh,hc];rfl
  ·rw[hfr i (by have e:(tJ f s ct bl q fs).m.fs.length=f:=List.length_replicate;omega)] at h0
   exact absurd h0 (by decide)
  ·rw[hh]
   have e:(tJ f s ct bl q fs).sl.length=s:=List.length_replicate
   unfold fK
   show (List.replicate s (0:Int)).getD i 0=_
   rw[List.getD_eq_getElem?_getD,List.getElem?_replicate,if_pos (by omega)];rfl
 ·rw[hmm]
  refine⟨fun c hc=>(by cases hc),fun c hc=>(by cases hc),fun i hi hd => ?_⟩
  rw[hfr i (by have e:(tJ f s ct bl q fs).m.fs.length=f:=List.length_replicate;omega)] at hd
  exact absurd hd (by decide)
def tabs (m:Ma) (T:List (List En)):Nat→Ma
 | 0=>m
 | q+1=>setTb (tabs m T q) q (dO (dE T q))
theorem take_set {α:Type} {F O:List α} {q:Nat} (hl:F.length=O.length) (hq:q<O.length):(F.take q++O.drop q).set q (F[q]'(by omega))=F.take (q+1)++O.drop (q+1):=by
 have e1:(F.take q).length=q:=by rw[List.length_take];omega
 rw[List.set_append,if_neg (by omega),e1,Nat.sub_self,List.drop_eq_getElem_cons hq,List.set_cons_zero,List.take_succ_eq_append_getElem (by omega),List.append_assoc]
 rfl
theorem ER {m:Ma} {T:List (List En)}:∀q,q≤m.sp.length→tabs m T q = { m with sp:=(dh m T).sp.take q++m.sp.drop q }
 | 0,_=>by simp[tabs]
 | q+1,h=>by
  have ih:=ER (m:=m) (T:=T) q (by omega)
  have hF:(dh m T).sp.length=m.sp.length:=gP
  have e1:((dh m T).sp.take q).length=q:=by rw[List.length_take];omega
  have hsp:bP (tabs m T q) q=m.sp[q]'(by omega):=by
   rw[ih]
   unfold bP
   show ((dh m T).sp.take q++m.sp.drop q).getD q zSp=_
   rw[List.getD_eq_getElem?_getD,List.getElem?_append_right (by omega),e1,Nat.sub_self,List.getElem?_drop,Nat.add_zero,List.getElem?_eq_getElem (by omega)];rfl
  have hFq:(dh m T).sp[q]'(by omega) = { m.sp[q]'(by omega) with tb:=dO (dE T q) }:=by
   have h1:=sN (m:=m) (T:=T) (p:=q) (by omega)
   have h2:bP m q=m.sp[q]'(by omega):=by unfold bP;rw[List.getD_eq_getElem?_getD,List.getElem?_eq_getElem (by omega)];rfl
   have h3:bP (dh m T) q=(dh m T).sp[q]'(by omega):=by unfold bP;rw[List.getD_eq_getElem?_getD,List.getElem?_eq_getElem (by omega)];rfl
   rw[h2,h3] at h1
   exact h1
  show setTb (tabs m T q) q (dO (dE T q))=_
  unfold setTb
  rw[hsp,ih,←hFq]
  show ({ m with sp:=((dh m T).sp.take q++m.sp.drop q).set q _ }:Ma)=_
  rw[take_set hF (by omega)]
theorem Kk {m:Ma} {T:List (List En)}:tabs m T m.sp.length=dh m T:=by
 rw[ER _ (Nat.le_refl _),List.drop_length,List.append_nil,List.take_of_length_le (by rw[gP];exact Nat.le_refl _)]
 rfl
theorem zK {P:Program} (t e:TypeId) (z:Value) (size bytes:Nat) (ht:P.underlying t=some (.slice e)) (h2:(P.info? e).map (fun i=>(i.zero,i.size,i.bytes))=some (some z,size,bytes)) (kl kc:IntKind) (n:Nat) (b2:bytes*n≤281474976710656) (b3:n≤9223372036854775807) (w:World) :
  (Instr.makeSlice t (.int kl (n:Int)) (.int kc (n:Int))).run P w = .ok (.slice (some ⟨w.heap.size,0,none⟩) n n) (w.alloc (.cells (madeCells z.cells (n*size)) e)):=by
 obtain⟨i,hi,hzz,hs,hb⟩:=info_parts h2
 have hb' : (i.bytes:Int)*(n:Int)≤281474976710656:=by
  have h:((i.bytes*n:Nat):Int)≤281474976710656:=by rw[hb];omega
  rwa [Int.natCast_mul] at h
 have hr:=run_make (P:=P) w t e i z ht hi hzz kl kc n n (by omega) (Int.le_refl _) hb' (by omega)
 simp only[Int.toNat_natCast,hs] at hr
 exact hr
theorem vz {α:Type} {w:World} {B:Nat} {e:TypeId} {sz n:Nat} (enc:α→List Value) (x:α) {z:Array Value} (hsz:∀x,(enc x).length=sz) (hp:0<sz) (hz:z.toList=enc x) (hn:n≤maxLen) {g:Nat} (hB:B≤g) (hk:aF w g (madeCells z (n*sz)) e) :
  Own w B e sz (.slice (some ⟨g,0,none⟩) n n) n ((List.replicate n x).flatMap enc):=
 ⟨by rw[Pw.flat_len enc sz hsz,List.length_replicate],.inr ⟨g,0,n,_,rfl,hB,hk,Nat.le_refl _,hn,by simp[size_madeCells],fun j u hj=>by
  rw[Nat.zero_add,←Array.getElem?_toList,yz enc sz hsz hp z x hz n];exact hj⟩⟩
theorem KM {w:World} {g g' n n' : Nat} {e e' : TypeId} {z:Array Value} (h:aF w g (madeCells z (n*8)) e) (h' : aF w g' (madeCells z (n' * 8)) e') (hne:Value.slice (some ⟨g,0,none⟩) n n ≠ .slice (some ⟨g',0,none⟩) n' n'):g≠g':=by
 intro e0
 subst e0
 have h2:some (Obj.cells (madeCells z (n*8)) e (0,0))=some (Obj.cells (madeCells z (n' * 8)) e' (0,0)):=h.symm.trans h'
 have h3:madeCells z (n*8)=madeCells z (n' * 8):=by
  injection h2 with h2
  injection h2
 have h4:=congrArg Array.size h3
 rw[size_madeCells,size_madeCells] at h4
 obtain rfl:n=n':=by omega
 exact hne rfl
structure JM (W0:World) (B f s ct:Nat) (zf zs zp:Array Value) (L:Nat→Bool) (y:Nat→Value) (W:World):Prop where
 be:Below W0.heap.size W0 W
 k2:L 2=true→∃g,y 2 = .slice (some ⟨g,0,none⟩) f f∧B≤g∧aF W g (madeCells zf (f*13)) 81
 k5:L 5=true→∃g,y 5 = .slice (some ⟨g,0,none⟩) s s∧B≤g∧aF W g (madeCells zs (s*1)) 3
 k7:L 7=true→∃g,y 7 = .slice (some ⟨g,0,none⟩) s s∧B≤g∧aF W g (madeCells zp (s*8)) 79
 k10:L 10=true→∃g,y 10 = .slice (some ⟨g,0,none⟩) ct ct∧B≤g∧aF W g (madeCells zp (ct*8)) 79
 ne:L 7=true→L 10=true→y 7≠y 10
 k3:L 3=true→L 2=true∧y 3 = .agg #[y 2,.int .i64 0]
 k8:L 8=true→L 7=true∧y 8 = .agg #[y 7,.slice none 0 0]
 k11:L 11=true→L 10=true∧y 11 = .agg #[y 10,.slice none 0 0]
 k14:L 14=true→(L 3=true∧L 5=true∧L 8=true∧L 11=true)∧y 14 = .agg #[y 2,.int .i64 0,y 5,y 7,.slice none 0 0,y 10,.slice none 0 0,.slice none 0 0,.int .i64 ct,.slice none 0 0,.slice none 0 0]
theorem mG {W0:World} {B f s ct:Nat} {zf zs zp:Array Value}:∀L y W W',Below W.heap.size W W'→JM W0 B f s ct zf zs zp L y W→JM W0 B f s ct zf zs zp L y W':=fun _ _ _ _ hb h=>
 ⟨ae h.be hb,fun e=>by obtain⟨g,a,b,c⟩:=h.k2 e;exact⟨g,a,b,c.ext hb⟩,fun e=>by obtain⟨g,a,b,c⟩:=h.k5 e;exact⟨g,a,b,c.ext hb⟩,fun e=>by obtain⟨g,a,b,c⟩:=h.k7 e;exact⟨g,a,b,c.ext hb⟩,fun e=>by obtain⟨g,a,b,c⟩:=h.k10 e;exact⟨g,a,b,c.ext hb⟩,h.ne,h.k3,h.k8,h.k11,h.k14⟩
theorem NU {W0:World} {B f s ct:Nat} {zf zs zp:Array Value} (y:Nat→Value):JM W0 B f s ct zf zs zp (fun _=>false) y W0:=
 ⟨Below.refl _ _,fun e=>(by cases e),fun e=>(by cases e),fun e=>(by cases e),fun e=>(by cases e),fun e=>(by cases e),fun e=>(by cases e),fun e=>(by cases e),fun e=>(by cases e),fun e=>(by cases e)⟩
theorem sU {W0 W:World} {B f s ct:Nat} {zf zs zp:Array Value} {L:Nat→Bool} {y:Nat→Value} {i:Nat} {v:Value} (hi:i≠2∧i≠5∧i≠7∧i≠10∧i≠3∧i≠8∧i≠11∧i≠14) (h:JM W0 B f s ct zf zs zp L y W):JM W0 B f s ct zf zs zp (bO L i) (cK y i v) W:=by
 have e:∀k,k≠i→bO L i k=L k∧cK y i v k=y k:=fun k hk=>⟨by unfold bO;rw[if_neg hk],by unfold cK;rw[if_neg hk]⟩
 have e2:=e 2 (by omega)
 have e5:=e 5 (by omega)
 have e7:=e 7 (by omega)
 have e10:=e 10 (by omega)
 have e3:=e 3 (by omega)
 have e8:=e 8 (by omega)
 have e11:=e 11 (by omega)
 have e14:=e 14 (by omega)
 refine⟨h.be,?_,?_,?_,?_,?_,?_,?_,?_,?_⟩
 ·rw[e2.1,e2.2];exact h.k2
 ·rw[e5.1,e5.2];exact h.k5
 ·rw[e7.1,e7.2];exact h.k7
 ·rw[e10.1,e10.2];exact h.k10
 ·rw[e7.1,e7.2,e10.1,e10.2];exact h.ne
 ·rw[e3.1,e3.2,e2.1,e2.2];exact h.k3
 ·rw[e8.1,e8.2,e7.1,e7.2];exact h.k8
 ·rw[e11.1,e11.2,e10.1,e10.2];exact h.k11
 ·rw[e14.1,e14.2,e3.1,e5.1,e8.1,e11.1,e2.2,e5.2,e7.2,e10.2];exact h.k14
theorem jy {L:Nat→Bool} {i:Nat} {p:Prop} (h:L i=false) (h' : L i=true):p:=by rw[h] at h'; cases h'
theorem Ob {W0 W:World} {B f s ct:Nat} {zf zs zp:Array Value} {L:Nat→Bool} {y:Nat→Value} (hi:L 2=false) (hB:B≤W0.heap.size) (h0:JM W0 B f s ct zf zs zp L y W):JM W0 B f s ct zf zs zp (bO L 2) (cK y 2 (.slice (some ⟨W.heap.size,0,none⟩) f f)) (W.alloc (.cells (madeCells zf (f*13)) 81)):=by
 have h:=mG _ _ _ _ ((Below.refl W.heap.size W).alloc (Nat.le_refl _) (.cells (madeCells zf (f*13)) 81)) h0
 exact⟨h.be,fun _=>⟨_,rfl,Nat.le_trans hB h0.be.size,aF.new _ _ _⟩,h.k5,h.k7,h.k10,h.ne,fun e=>jy hi (h.k3 e).1,h.k8,h.k11,fun e=>jy hi (h.k3 (h.k14 e).1.1).1⟩
theorem NW {W0 W:World} {B f s ct:Nat} {zf zs zp:Array Value} {L:Nat→Bool} {y:Nat→Value} (hi:L 5=false) (hB:B≤W0.heap.size) (h0:JM W0 B f s ct zf zs zp L y W):JM W0 B f s ct zf zs zp (bO L 5) (cK y 5 (.slice (some ⟨W.heap.size,0,none⟩) s s)) (W.alloc (.cells (madeCells zs (s*1)) 3)):=by
 have h:=mG _ _ _ _ ((Below.refl W.heap.size W).alloc (Nat.le_refl _) (.cells (madeCells zs (s*1)) 3)) h0
 exact⟨h.be,h.k2,fun _=>⟨_,rfl,Nat.le_trans hB h0.be.size,aF.new _ _ _⟩,h.k7,h.k10,h.ne,h.k3,h.k8,h.k11,fun e=>jy hi (h.k14 e).1.2.1⟩
theorem NY {W0 W:World} {B f s ct:Nat} {zf zs zp:Array Value} {L:Nat→Bool} {y:Nat→Value} (hi:L 7=false) (hB:B≤W0.heap.size) (h0:JM W0 B f s ct zf zs zp L y W):JM W0 B f s ct zf zs zp (bO L 7) (cK y 7 (.slice (some ⟨W.heap.size,0,none⟩) s s)) (W.alloc (.cells (madeCells zp (s*8)) 79)):=by
 have h:=mG _ _ _ _ ((Below.refl W.heap.size W).alloc (Nat.le_refl _) (.cells (madeCells zp (s*8)) 79)) h0
 refine⟨h.be,h.k2,h.k5,fun _=>⟨_,rfl,Nat.le_trans hB h0.be.size,aF.new _ _ _⟩,h.k10,fun _ e => ?_,h.k3,fun e=>jy hi (h.k8 e).1,h.k11,fun e=>jy hi (h.k8 (h.k14 e).1.2.2.1).1⟩
 obtain⟨g,e1,_,e2⟩:=h0.k10 e
 show Value.slice _ s s≠y 10
 rw[e1]
 intro e3
 simp only[Value.slice.injEq,Option.some.injEq,Addr.mk.injEq] at e3
 have:=e2.lt
 omega
theorem Nc {W0 W:World} {B f s ct:Nat} {zf zs zp:Array Value} {L:Nat→Bool} {y:Nat→Value} (hi:L 10=false) (hB:B≤W0.heap.size) (h0:JM W0 B f s ct zf zs zp L y W):JM W0 B f s ct zf zs zp (bO L 10) (cK y 10 (.slice (some ⟨W.heap.size,0,none⟩) ct ct)) (W.alloc (.cells (madeCells zp (ct*8)) 79)):=by
 have h:=mG _ _ _ _ ((Below.refl W.heap.size W).alloc (Nat.le_refl _) (.cells (madeCells zp (ct*8)) 79)) h0
 refine⟨h.be,h.k2,h.k5,h.k7,fun _=>⟨_,rfl,Nat.le_trans hB h0.be.size,aF.new _ _ _⟩,fun e _ => ?_,h.k3,h.k8,fun e=>jy hi (h.k11 e).1,fun e=>jy hi (h.k11 (h.k14 e).1.2.2.2).1⟩
 obtain⟨g,e1,_,e2⟩:=h0.k7 e
 show y 7≠Value.slice _ ct ct
 rw[e1]
 intro e3
 simp only[Value.slice.injEq,Option.some.injEq,Addr.mk.injEq] at e3
 have:=e2.lt
 omega
theorem Oe {W0 W:World} {B f s ct:Nat} {zf zs zp:Array Value} {L:Nat→Bool} {y:Nat→Value} (hi:L 3=false) (hd:L 2=true) (h:JM W0 B f s ct zf zs zp L y W):JM W0 B f s ct zf zs zp (bO L 3) (cK y 3 (.agg #[y 2,.int .i64 0])) W:=
 ⟨h.be,h.k2,h.k5,h.k7,h.k10,h.ne,fun _=>⟨hd,rfl⟩,h.k8,h.k11,fun e=>jy hi (h.k14 e).1.1⟩
theorem NZ {W0 W:World} {B f s ct:Nat} {zf zs zp:Array Value} {L:Nat→Bool} {y:Nat→Value} (hi:L 8=false) (hd:L 7=true) (h:JM W0 B f s ct zf zs zp L y W):JM W0 B f s ct zf zs zp (bO L 8) (cK y 8 (.agg #[y 7,.slice none 0 0])) W:=
 ⟨h.be,h.k2,h.k5,h.k7,h.k10,h.ne,h.k3,fun _=>⟨hd,rfl⟩,h.k11,fun e=>jy hi (h.k14 e).1.2.2.1⟩
theorem NC {W0 W:World} {B f s ct:Nat} {zf zs zp:Array Value} {L:Nat→Bool} {y:Nat→Value} (hi:L 11=false) (hd:L 10=true) (h:JM W0 B f s ct zf zs zp L y W):JM W0 B f s ct zf zs zp (bO L 11) (cK y 11 (.agg #[y 10,.slice none 0 0])) W:=
 ⟨h.be,h.k2,h.k5,h.k7,h.k10,h.ne,h.k3,h.k8,fun _=>⟨hd,rfl⟩,fun e=>jy hi (h.k14 e).1.2.2.2⟩
theorem Nt {W0 W:World} {B f s ct:Nat} {zf zs zp:Array Value} {L:Nat→Bool} {y:Nat→Value} (h3:L 3=true) (h5:L 5=true) (h8:L 8=true) (h11:L 11=true) (h:JM W0 B f s ct zf zs zp L y W) :
  JM W0 B f s ct zf zs zp (bO L 14) (cK y 14 (.agg #[y 2,.int .i64 0,y 5,y 7,.slice none 0 0,y 10,.slice none 0 0,.slice none 0 0,.int .i64 ct,.slice none 0 0,.slice none 0 0])) W:=
 ⟨h.be,h.k2,h.k5,h.k7,h.k10,h.ne,h.k3,h.k8,h.k11,fun _=>⟨⟨h3,h5,h8,h11⟩,rfl⟩⟩
def KE (gf gs gw gd f s ct:Nat):MH:=⟨some ⟨gf,0,none⟩,f,⟨List.replicate f fr0,0⟩,some ⟨gs,0,none⟩,s,List.replicate s 0,some ⟨gw,0,none⟩,s,none,0,⟨List.replicate s zPg,[]⟩,some ⟨gd,0,none⟩,ct,none,0,⟨List.replicate ct zPg,[]⟩,none,0,[],ct,none,0,[],none,0,[]⟩
theorem LB {w:World} {B b gf gs gw gd f s ct:Nat} {al:Option Addr} {cl:Nat} {l:List UInt8} (hr:lX w al cl l.length (l.map kT)) (ha:∀a,al=some a→l.map kT≠[]→a.block<B) (hB:B≤b) (hk:aF w b (eP ⟨al,cl,l,KE gf gs gw gd f s ct,none,0,[]⟩) 77)
  (hf:f≤40) (hs:s≤60) (hc:ct≤80) (b1:B≤gf) (b2:B≤gs) (b3:B≤gw) (b4:B≤gd) (hne:gw≠gd) {zf zs zp:Array Value} (ef:zf.toList=nE fr0) (es:zs.toList=[dL 0]) (ep:zp.toList=vJ zPg)
  (k1:aF w gf (madeCells zf (f*13)) 81) (k2:aF w gs (madeCells zs (s*1)) 3) (k3:aF w gw (madeCells zp (s*8)) 79) (k4:aF w gd (madeCells zp (ct*8)) 79):dm w B b ⟨al,cl,l,KE gf gs gw gd f s ct,none,0,[]⟩:=by
 have m:maxLen=maxLen:=rfl
 have o1:=vz nE fr0 (n:=f) eT (by decide) ef (by unfold maxLen;omega) b1 k1
 have o2:=vz (fun x=>[dL x]) (0:Int) (n:=s) (fun _=>rfl) (by decide) es (by unfold maxLen;omega) b2 k2
 have o3:=vz vJ zPg (n:=s) jF (by decide) ep (by unfold maxLen;omega) b3 k3
 have o4:=vz vJ zPg (n:=ct) jF (by decide) ep (by unfold maxLen;omega) b4 k4
 refine⟨hk,hB,⟨?_,?_,⟨?_,Own.nil _ _ _ _⟩,⟨?_,Own.nil _ _ _ _⟩,rA.nil _ _,Own.nil _ _ _ _,Own.nil _ _ _ _,fun p hp=>(by cases hp),by show (-9223372036854775808:Int)≤(ct:Int)∧(ct:Int)≤9223372036854775807;omega⟩,Own.nil _ _ _ _,hr,ha,?_,fun p hp=>(by cases hp),rfl⟩
 ·show Own w B _ 13 (.slice (some ⟨gf,0,none⟩) (List.replicate f fr0).length f) (List.replicate f fr0).length _
  rw[List.length_replicate];exact o1
 ·show Own w B _ 1 (.slice (some ⟨gs,0,none⟩) (List.replicate s (0:Int)).length s) (List.replicate s (0:Int)).length ((List.replicate s (0:Int)).map dL)
  rw[List.length_replicate,←kP];exact o2
 ·show Own w B _ 8 (.slice (some ⟨gw,0,none⟩) (List.replicate s zPg).length s) (List.replicate s zPg).length _
  rw[List.length_replicate];exact o3
 ·show Own w B _ 8 (.slice (some ⟨gd,0,none⟩) (List.replicate ct zPg).length ct) (List.replicate ct zPg).length _
  rw[List.length_replicate];exact o4
 ·intro x hx hd
  have e1:gw=x:=by simpa[KE,oB,Value.ownBlock] using hx
  have e2:gd=x:=by simpa[KE,oB,Value.ownBlock] using hd
  exact hne (e1.trans e2.symm)
def tY (f q:Nat):List Fr:=List.replicate q frZ++List.replicate (f-q) fr0
theorem Ac {f q:Nat} (h:q≤f):(tY f q).length=f:=by unfold tY;simp;omega
theorem KG {f q:Nat} (h:q<f) (hl:q<(tY f q).length):(tY f q)[q]=fr0:=by
 have:(tY f q)[q]?=some fr0:=by
  unfold tY
  rw[List.getElem?_append_right (by simp),List.length_replicate,Nat.sub_self,List.getElem?_replicate,if_pos (by omega)]
 rw[List.getElem?_eq_getElem hl] at this
 exact Option.some.inj this
theorem Lx {f q:Nat} (h:q<f):(tY f q).set q frZ=tY f (q+1):=by
 unfold tY
 rw[List.set_append,if_neg (by simp),List.length_replicate,Nat.sub_self]
 obtain⟨d,hd⟩:∃d,f-q=d+1:=⟨f-q-1,by omega⟩
 rw[hd,show f-(q+1)=d by omega,List.replicate_succ,List.set_cons_zero,List.replicate_succ',List.append_assoc]
 rfl
theorem LC (f:Nat):tY f f=List.replicate f frZ:=by unfold tY;simp
theorem Li {cur:Array Value} {o:Nat} (hfit:o+13≤cur.size) (hc:∀j u,(nE fr0)[j]?=some u→cur[o+j]?=some u):bC cur (o+11) [.int .i64 (-1)]=bC cur o (nE frZ):=
 yH (xs:=nE fr0) rfl hfit hc (by decide) (fun i hi=>by
  obtain rfl:i=0:=by simpa using hi
  rfl) (fun i hi=>by
  by_cases h13:i<13
  ·match i,h13,hi with
   | 0,_,_=>rfl
   | 1,_,_=>rfl
   | 2,_,_=>rfl
   | 3,_,_=>rfl
   | 4,_,_=>rfl
   | 5,_,_=>rfl
   | 6,_,_=>rfl
   | 7,_,_=>rfl
   | 8,_,_=>rfl
   | 9,_,_=>rfl
   | 10,_,_=>rfl
   | 11,_,h=>exact absurd h (by simp)
   | 12,_,_=>rfl
  ·rw[List.getElem?_eq_none (by rw[eT];omega),List.getElem?_eq_none (by rw[eT];omega)])
structure zo (f s ct:Nat) (as0:Option Addr) (fi0:List PF) (bl:List Page) (q:List (Int × Page)) (S:MW):Prop where
 m:S.H.m=⟨List.replicate f frZ,0⟩
 asl:S.H.asl=as0
 sl:S.H.sl=List.replicate s 0
 sw:S.H.sw=⟨List.replicate s zPg,[]⟩
 dk:S.H.dk=⟨bl,q⟩
 fi:S.H.fi=fi0
 ct:S.H.ct=ct
 ca:S.H.ca=[]
 sp:S.H.sp=[]
 T:S.T=[]
theorem zo.ma {f s ct:Nat} {as0:Option Addr} {fi0:List PF} {bl:List Page} {q:List (Int × Page)} {S:MW} (h:zo f s ct as0 fi0 bl q S):S.H.ma=tJ f s ct bl q (fi0.map PF.fi):=by
 unfold MH.ma tJ bT
 rw[h.m,h.sl,h.sw,h.dk,h.fi,h.ct,h.ca,h.sp];rfl
theorem zo.lst {f s ct:Nat} {as0:Option Addr} {fi0:List PF} {bl:List Page} {q:List (Int × Page)} {S:MW} (h:zo f s ct as0 fi0 bl q S) (a:Option Addr) (c:Nat) (l:List UInt8):zo f s ct as0 fi0 bl q (S.lst a c l):=⟨h.m,h.asl,h.sl,h.sw,h.dk,h.fi,h.ct,h.ca,h.sp,h.T⟩
theorem dm.kb_int {w:World} {B b:Nat} {S:MW} (h:dm w B b S) {x:Nat} {cs:Array Value} (hk:aF w x cs 3) (hx:oB S.H.asl≠some x):¬iY b S x:=by
 have own:∀ {e:TypeId} {sz n c:Nat} {a:Option Addr} {xs:List Value},3≠e→Own w B e sz (.slice a n c) n xs→oB a=some x→False:=fun ht ho hx=>by
  obtain⟨_,cs',h2⟩:=fD ho hx
  exact lQ hk h2 ht rfl
 intro hx'
 rcases hx' with hx' | hx'
 ·subst hx'; exact lQ hk h.blk (by decide) rfl
 ·simp only[dZ,List.mem_cons,List.not_mem_nil,or_false] at hx'
  rcases hx' with hx' | hx' | hx' | hx' | hx' | hx' | hx' | hx' | hx'
  ·exact own (by decide) h.ma.fr hx'.symm
  ·exact hx hx'.symm
  ·exact own (by decide) h.ma.sw.b hx'.symm
  ·exact own (by decide) h.ma.dk.b hx'.symm
  ·exact own (by decide) h.ma.dk.q hx'.symm
  ·exact own (by decide) h.ma.st.own hx'.symm
  ·exact own (by decide) h.ma.ca hx'.symm
  ·exact own (by decide) h.ma.sp hx'.symm
  ·exact own (by decide) h.tt hx'.symm
theorem dm.locI {w w' : World} {B b:Nat} {S:MW} (h:dm w B b S) {g:Nat} {cs:Array Value} (hk:aF w g cs 3) (hn:¬iY b S g) (hfi:∀p∈S.H.fi,oB p.a≠some g) (hgB:B≤g) (hg:w.grownBy w' (some g)):dm w' B b S:=by
 have hne:∀ {a:Option Addr},oB a∈dZ S→∀n c g',(Value.slice a n c).ownBlock=some g'→some g≠some g':=fun hm n c g' he e=>by
  cases e
  rw[iK] at he
  exact hn (.inr (by rw[←he];exact hm))
 exact⟨h.blk.grown hg (fun e=>hn (.inl (Option.some.inj e))),h.ge,⟨h.ma.fr.grown hg (hne (by simp[dZ]) _ _),h.ma.sl.grown hg (hne (by simp[dZ]) _ _),⟨h.ma.sw.b.grown hg (hne (by simp[dZ]) _ _),h.ma.sw.q.grown hg (fun g' he=>by rw[h.n3] at he;cases he)⟩,⟨h.ma.dk.b.grown hg (hne (by simp[dZ]) _ _),h.ma.dk.q.grown hg (hne (by simp[dZ]) _ _)⟩,
  ⟨h.ma.st.own.grown hg (hne (by simp[dZ]) _ _),fun i p hp=>(h.ma.st.each i p hp).grown hg (fun g' he e=>by
   cases e
   unfold lY at he
   rw[iK] at he
   exact hfi p (List.mem_of_getElem? hp) he),h.ma.st.apart⟩,h.ma.ca.grown hg (hne (by simp[dZ]) _ _),h.ma.sp.grown hg (hne (by simp[dZ]) _ _),fun p hp=>⟨ak (h.ma.ps p hp).1 hk (by decide) hg,(h.ma.ps p hp).2.keep hk (by decide) hg⟩,h.ma.c64⟩,
  h.tt.grown hg (hne (by simp[dZ]) _ _),h.rd.keep h.ra h.bs hg hgB,h.ra,h.n1,h.n2,h.n3⟩
theorem dm.setTb {w:World} {B b:Nat} {S:MW} (h:dm w B b S) {p:Nat} {P:PS} (hP:S.H.sp[p]?=some P) :
  ∃g off cur,S.H.ap=some ⟨g,off,none⟩∧B≤g∧aF w g cur 55∧off+p*10+2+8≤cur.size ∧
   ∀(w' : World) (v:Vector Value 8) (t:Tb),lc w B (iP v) t→aF w' g (bC cur (off+p*10+2) (iP v).toList) 55→w.grownBy w' (some g)→dm w' B b { S with H:={ S.H with sp:=S.H.sp.set p { P with ts:=v,tb:=t } } }:=by
 have hp:=(List.getElem?_eq_some_iff.1 hP).1
 have hPe:=(List.getElem?_eq_some_iff.1 hP).2
 obtain⟨g,off,cap,cur,hv,hB,hblk,hfit,hset⟩:=oZ ky (by decide) rfl h.ma.sp p hp
 simp only[Value.slice.injEq] at hv
 obtain⟨hap,_,hcp⟩:=hv
 have hsp:=h.ma.sp
 rw[hap] at hsp
 have hcell:=yK hsp hblk
 have hat:∀j u,(lg P)[j]?=some u→cur[off+p*10+j]?=some u:=fun j u hj=>by
  rw[Nat.add_assoc]
  exact hcell _ _ (flat_get lg 10 ky S.H.sp p hp j u (by rw[hPe];exact hj))
 refine⟨g,off,cur,hap,hB,hblk,by omega,fun w' v t ht hb hg => ?_⟩
 have e1:bC cur (off+p*10) (lg { P with ts:=v,tb:=t })=bC cur (off+p*10+2) (iP v).toList:=by
  show bC cur (off+p*10) (.bool P.lv :: .slice P.aa P.ar.length P.ac::(iP v).toList)=_
  rw[nC _ (by simpa using hat 0 _ rfl),nC _ (hat 1 _ rfl)]
 rw[←e1] at hb
 have hlen:(S.H.sp.set p { P with ts:=v,tb:=t }).length=S.H.sp.length:=List.length_set
 refine h.putP hblk hB hg hlen (by rw[hlen];exact hset w' _ hb) fun q hq => ?_
 rcases List.mem_or_eq_of_mem_set hq with hq|rfl
 ·exact h.ma.ps q hq
 ·exact⟨(h.ma.ps P (List.mem_of_getElem? hP)).1,ht⟩
def vR (S:MW) (B b:Nat) (w:World) (ks:List (Nat × Array Value × TypeId)) (p q:Nat) (e:TypeId) (sz n:Nat) (v0:Value) (old xs:List Value):(Nat→Bool)→(Nat→Value)→World→Prop:=fun L y W=>
 (aF W b (eP S) 77∧∀t∈ks,aF W t.1 t.2.1 t.2.2)∧(L p=false→dm W B b S∧MS w b S W S)∧(L q=true→L p=false→∃a c,y q = .slice a 1 c∧lX W a c 1 xs) ∧
 (L p=true→∃w1,dm w1 B b S∧MS w b S w1 S∧w1.grownBy W v0.ownBlock∧Own W B e sz (y p) (n+1) (old++xs)∧jV w1 v0 (y p))
theorem dB {S:MW} {B b:Nat} {w:World} {ks:List (Nat × Array Value × TypeId)} {p q:Nat} {e:TypeId} {sz n:Nat} {v0:Value} {old xs:List Value}:∀L y W W',Below W.heap.size W W'→vR S B b w ks p q e sz n v0 old xs L y W→vR S B b w ks p q e sz n v0 old xs L y W':=
 fun _ _ _ _ hb ⟨h1,h2,h3,h4⟩=>⟨⟨h1.1.ext hb,fun t ht=>(h1.2 t ht).ext hb⟩,fun e=>⟨(h2 e).1.below hb,(h2 e).2.below hb⟩,fun e1 e2=>by
  obtain⟨a,e,k1,k2⟩:=h3 e1 e2
  exact⟨a,e,k1,k2.below hb⟩,fun e=>by
  obtain⟨w1,k1,k2,k3,k4,k5⟩:=h4 e
  exact⟨w1,k1,k2,BO k3 hb,k4.below hb,k5⟩⟩
theorem dJ {S:MW} {B b:Nat} {w W:World} {ks:List (Nat × Array Value × TypeId)} {p q:Nat} {e:TypeId} {sz n:Nat} {v0:Value} {old xs:List Value} {L:Nat→Bool} {y:Nat→Value} {i:Nat} {v:Value} (hi:i≠q∧i≠p) (h:vR S B b w ks p q e sz n v0 old xs L y W):vR S B b w ks p q e sz n v0 old xs (bO L i) (cK y i v) W:=by
 obtain⟨h1,h2,h3,h4⟩:=h
 have e15:bO L i q=L q:=by unfold bO;rw[if_neg (fun e=>hi.1 e.symm)]
 have e16:bO L i p=L p:=by unfold bO;rw[if_neg (fun e=>hi.2 e.symm)]
 have y15:cK y i v q=y q:=by unfold cK;rw[if_neg (fun e=>hi.1 e.symm)]
 have y16:cK y i v p=y p:=by unfold cK;rw[if_neg (fun e=>hi.2 e.symm)]
 exact⟨h1,by rw[e16];exact h2,by rw[e15,e16,y15];exact h3,by rw[e16,y16];exact h4⟩
theorem IZ {S:MW} {B b:Nat} {w W W' : World} {ks:List (Nat × Array Value × TypeId)} {p q:Nat} {e:TypeId} {sz n:Nat} {v0:Value} {old xs:List Value} {L:Nat→Bool} {y:Nat→Value} {a:Option Addr} {c:Nat} (hpq:p≠q) (hb:Below W.heap.size W W') (h:vR S B b w ks p q e sz n v0 old xs L y W) (hr:lX W' a c 1 xs) :
  vR S B b w ks p q e sz n v0 old xs (bO L q) (cK y q (.slice a 1 c)) W':=by
 obtain⟨h1,h2,h3,h4⟩:=dB _ _ _ _ hb h
 have e16:bO L q p=L p:=by unfold bO;rw[if_neg hpq]
 have y16:cK y q (.slice a 1 c) p=y p:=by unfold cK;rw[if_neg hpq]
 exact⟨h1,by rw[e16];exact h2,fun _ _=>⟨a,c,by unfold cK;rw[if_pos rfl],hr⟩,by rw[e16,y16];exact h4⟩
theorem Jz {S:MW} {B b:Nat} {w W W' : World} {ks:List (Nat × Array Value × TypeId)} {p q:Nat} {e:TypeId} {sz n:Nat} {v0:Value} {old xs:List Value} {L:Nat→Bool} {y:Nat→Value} {v:Value} (hp:L p=false) (h:vR S B b w ks p q e sz n v0 old xs L y W) (hg:W.grownBy W' v0.ownBlock)
  (hnb:∀g,v0.ownBlock=some g→g≠b∧∀t∈ks,t.1≠g) (ho:Own W' B e sz v (n+1) (old++xs)) (hs:jV W v0 v):vR S B b w ks p q e sz n v0 old xs (bO L p) (cK y p v) W':=by
 obtain⟨h1,h2,h3,h4⟩:=h
 refine⟨⟨h1.1.grown hg (fun e=>(hnb b e).1 rfl),fun t ht=>(h1.2 t ht).grown hg (fun e=>(hnb _ e).2 t ht rfl)⟩,fun e => ?_,fun _ e => ?_,fun _=>⟨W,(h2 hp).1,(h2 hp).2,hg,by unfold cK;rw[if_pos rfl];exact ho,by unfold cK;rw[if_pos rfl];exact hs⟩⟩<;>· unfold bO at e;rw[if_pos rfl] at e;cases e
theorem Ip {S:MW} {B b:Nat} {w:World} {ks:List (Nat × Array Value × TypeId)} {p q:Nat} {e:TypeId} {sz n:Nat} {v0:Value} {old xs:List Value} (h:dm w B b S) (hk:∀t∈ks,aF w t.1 t.2.1 t.2.2) (y:Nat→Value):vR S B b w ks p q e sz n v0 old xs (fun _=>false) y w:=
 ⟨⟨h.blk,hk⟩,fun _=>⟨h,MS.refl _ _ _⟩,fun e=>(by cases e),fun e=>(by cases e)⟩
def xQ (S:MW) (B b:Nat) (w:World) (gf:Nat) (F:PF):(Nat→Bool)→(Nat→Value)→World→Prop:=fun L y W=>
 (∃a c l,dm W B b (S.lst a c l)∧MS w b S W (S.lst a c l))∧aF W gf (gZ F) 67∧Own W B 3 1 (lY F) F.l.length (F.l.map dL) ∧
 (L 4=true→L 11=false→∃g,y 4 = .slice (some ⟨g,0,none⟩) 0 0∧Own W w.heap.size 67 2 (.slice (some ⟨g,0,none⟩) 0 0) 0 []) ∧
 (L 11=true→L 14=false→Own W w.heap.size 67 2 (y 11) S.H.fi.length (S.H.fi.flatMap pG)) ∧
 (L 13=true→L 14=false→Own W w.heap.size 67 2 (y 13) 1 (pG F)) ∧
 (L 14=true→Own W w.heap.size 67 2 (y 14) (S.H.fi.length+1) (S.H.fi.flatMap pG++pG F))∧w.heap.size≤W.heap.size∧(L 15=true→L 14=true∧y 15 = .agg #[y 14,.int .i64 0])
theorem bU {S:MW} {B b:Nat} {w:World} {gf:Nat} {F:PF}:∀L y W W',Below W.heap.size W W'→xQ S B b w gf F L y W→xQ S B b w gf F L y W':=
 fun _ _ _ _ hb ⟨⟨a,c,l,h1,h2⟩,h3,h4,h5,h6,h7,h8,h9,h10⟩=>⟨⟨a,c,l,h1.below hb,h2.below hb⟩,h3.ext hb,h4.below hb,fun e1 e2=>by
  obtain⟨g,k1,k2⟩:=h5 e1 e2
  exact⟨g,k1,k2.below hb⟩,fun e1 e2=>(h6 e1 e2).below hb,fun e1 e2=>(h7 e1 e2).below hb,fun e1=>(h8 e1).below hb,Nat.le_trans h9 hb.size,h10⟩
theorem LY {S:MW} {B b:Nat} {w:World} {gf:Nat} {F:PF} (h:dm w B b S) (hk:aF w gf (gZ F) 67) (ho:Own w B 3 1 (lY F) F.l.length (F.l.map dL)) (y:Nat→Value):xQ S B b w gf F (fun _=>false) y w:=
 ⟨⟨S.al,S.cl,S.l,h,MS.refl _ _ _⟩,hk,ho,fun e=>(by cases e),fun e=>(by cases e),fun e=>(by cases e),fun e=>(by cases e),Nat.le_refl _,fun e=>(by cases e)⟩
theorem cO {S:MW} {B b:Nat} {w W:World} {gf:Nat} {F:PF} {L:Nat→Bool} {y:Nat→Value} {i:Nat} {v:Value} (hi:i≠4∧i≠11∧i≠13∧i≠14∧i≠15) (h:xQ S B b w gf F L y W):xQ S B b w gf F (bO L i) (cK y i v) W:=by
 have e:∀k,k=4∨k=11∨k=13∨k=14∨k=15→bO L i k=L k∧cK y i v k=y k:=fun k hk=>⟨by unfold bO;rw[if_neg (by omega)],by unfold cK;rw[if_neg (by omega)]⟩
 have e4:=e 4 (by decide)
 have e11:=e 11 (by decide)
 have e13:=e 13 (by decide)
 have e14:=e 14 (by decide)
 have e15:=e 15 (by decide)
 unfold xQ
 rw[e4.1,e4.2,e11.1,e11.2,e13.1,e13.2,e14.1,e14.2,e15.1,e15.2]
 exact h
theorem LQ {S:MW} {B b:Nat} {w W:World} {gf:Nat} {F:PF} {L:Nat→Bool} {y:Nat→Value} (h:xQ S B b w gf F L y W):xQ S B b w gf F (bO L 4) (cK y 4 (.slice (some ⟨W.heap.size,0,none⟩) 0 0)) (W.alloc (.cells #[] 67)):=by
 obtain⟨h1,h3,h4,h5,h6,h7,h8,h9,h10⟩:=bU _ _ _ _ ((Below.refl _ _).alloc (Nat.le_refl _) (.cells #[] 67)) h
 exact⟨h1,h3,h4,fun _ _=>⟨_,rfl,Own.empty _ _ h.2.2.2.2.2.2.2.1⟩,h6,h7,h8,h9,h10⟩
theorem Jh {S:MW} {B b:Nat} {w W W' : World} {gf:Nat} {F:PF} {L:Nat→Bool} {y:Nat→Value} {v:Value} (h:xQ S B b w gf F L y W) (hb:Below W.heap.size W W') (ho:Own W' w.heap.size 67 2 v S.H.fi.length (S.H.fi.flatMap pG)):xQ S B b w gf F (bO L 11) (cK y 11 v) W':=by
 obtain⟨h1,h3,h4,h5,h6,h7,h8,h9,h10⟩:=bU _ _ _ _ hb h
 exact⟨h1,h3,h4,fun _ e=>(by cases e),fun _ _=>ho,h7,h8,h9,h10⟩
theorem IK {S:MW} {B b:Nat} {w W W' : World} {gf:Nat} {F:PF} {L:Nat→Bool} {y:Nat→Value} {v:Value} (h:xQ S B b w gf F L y W) (hb:Below W.heap.size W W') (ho:Own W' w.heap.size 67 2 v 1 (pG F)):xQ S B b w gf F (bO L 13) (cK y 13 v) W':=by
 obtain⟨h1,h3,h4,h5,h6,h7,h8,h9,h10⟩:=bU _ _ _ _ hb h
 exact⟨h1,h3,h4,h5,h6,fun _ _=>ho,h8,h9,h10⟩
theorem Er {w W:World} {B b:Nat} {S:MW} (h:dm w B b S) {a:Option Addr} {c:Nat} {l:List UInt8} {x:Nat} (hx:w.heap.size≤x):¬iY b (S.lst a c l) x:=fun hk=>h.new hx hk
theorem IW {S:MW} {B b:Nat} {w W W' : World} {gf:Nat} {F:PF} {L:Nat→Bool} {y:Nat→Value} {v:Value} (h0:dm w B b S) (hgf:gf<w.heap.size) (h:xQ S B b w gf F L y W) (h11:L 11=true) (h14:L 14=false) (hg:W.grownBy W' (y 11).ownBlock) (ho:Own W' w.heap.size 67 2 v (S.H.fi.length+1) (S.H.fi.flatMap pG++pG F)) :
  xQ S B b w gf F (bO L 14) (cK y 14 v) W':=by
 obtain⟨⟨a,c,l,h1,h2⟩,h3,h4,h5,h6,h7,h8,h9,h10⟩:=h
 have o11:=h6 h11 h14
 have hst:∀k,(y 11).ownBlock=some k→w.heap.size≤k:=fun k hk=>o11.ge k hk
 refine⟨⟨a,c,l,?_,?_⟩,h3.grown hg (fun e=>by have:=hst _ e;omega),?_,fun _ e=>(by rw[show bO L 14 11=L 11 from rfl,h11] at e;cases e),fun _ e=>(by cases e),fun _ e=>(by cases e),fun _=>ho,Nat.le_trans h9 hg.size,fun e=>jy h14 (h10 e).1⟩
 ·cases hk:(y 11).ownBlock with
  | none=>rw[hk] at hg;exact h1.below (fO hg)
  | some g=>
   rw[hk] at hg
   obtain⟨cs,hkb⟩:=ic o11 g hk
   exact h1.locT hkb (by decide) (Er (W:=w) h0 (hst g hk)) (Nat.le_trans h0.bs (hst g hk)) hg
 ·cases hk:(y 11).ownBlock with
  | none=>rw[hk] at hg;exact h2.below (fO hg)
  | some g=>rw[hk] at hg;exact h2.loc hg (hst g hk)
 ·cases hk:(y 11).ownBlock with
  | none=>rw[hk] at hg;exact h4.below (fO hg)
  | some g=>
   rw[hk] at hg
   obtain⟨cs,hkb⟩:=ic o11 g hk
   exact ak h4 hkb (by decide) hg
theorem Js {S:MW} {B b:Nat} {w W:World} {gf:Nat} {F:PF} {L:Nat→Bool} {y:Nat→Value} {i:Nat} (hi:i≠4∧i≠11∧i≠13∧i≠14∧i≠15) (h0:dm w B b S) (hgf:¬iY b S gf) (hxa:∀x,(lY F).ownBlock=some x→¬iY b S x) (n:Int) (hn : -9223372036854775808≤n∧n≤9223372036854775807) (h:xQ S B b w gf F L y W) {R:Value→World→Prop} (hR:∀x:Int,0≤x→x<256→∀W',R (.int .i64 x) W') :
  Calls Tryz.prog 30 #[.pointer (some ⟨b,0,none⟩),.int .i64 n] W fun e W' => ∃v,e = .returned v∧xQ S B b w gf F (bO L i) (cK y i v) W'∧R v W':=by
 obtain⟨⟨a,c,l,h1,h2⟩,h3,h4,h5,h6,h7,h8,h9,h10⟩:=h
 refine (dH _ n B b W h1 hn).mono ?_
 rintro r W' ⟨x,a',c',l',rfl,k1,k2,k3,_⟩
 have hfr:∀ {e:TypeId} {sz n:Nat} {v:Value} {xs:List Value},Own W w.heap.size e sz v n xs→Own W' w.heap.size e sz v n xs:=fun ho=>k2.ownN ho fun x hx=>Er (W:=w) h0 (ho.ge x hx)
 refine⟨_,rfl,cO hi ⟨⟨a',c',l',k1,h2.trans k2⟩,k2.blkN h3 hgf,k2.ownN h4 hxa,fun e1 e2 => ?_,fun e1 e2=>hfr (h6 e1 e2),fun e1 e2=>hfr (h7 e1 e2),fun e1=>hfr (h8 e1),Nat.le_trans h9 k2.size,h10⟩,hR x k3.1 k3.2.1 W'⟩
 obtain⟨g,e3,e4⟩:=h5 e1 e2
 exact⟨g,e3,hfr e4⟩
theorem Iu {S:MW} {B b:Nat} {w W:World} {gf:Nat} {F:PF} {L:Nat→Bool} {y:Nat→Value} (hd:L 14=true) (h:xQ S B b w gf F L y W):xQ S B b w gf F (bO L 15) (cK y 15 (.agg #[y 14,.int .i64 0])) W:=by
 obtain⟨h1,h3,h4,h5,h6,h7,h8,h9,h10⟩:=h
 exact⟨h1,h3,h4,h5,h6,h7,h8,h9,fun _=>⟨hd,rfl⟩⟩
theorem Ef {w:World} {B:Nat} (hB:B≤w.heap.size) (F:PF):Own (w.alloc (.cells (gZ F) 67)) B 67 2 (.slice (some ⟨w.heap.size,0,none⟩) 1 1) 1 (pG F):=
 ⟨rfl,.inr ⟨w.heap.size,0,1,_,rfl,hB,aF.new _ _ _,Nat.le_refl _,by unfold maxLen;omega,Nat.le_refl _,fun j u hj=>by rw[Nat.zero_add,←Array.getElem?_toList];exact hj⟩⟩
theorem vI {S:MW} {B b:Nat} {w W:World} {gf:Nat} {F:PF} {L:Nat→Bool} {y:Nat→Value} (h:xQ S B b w gf F L y W) (h14:L 14=true):∃a c,y 14 = .slice a (S.H.fi++[F]).length c∧CV W a c (S.H.fi++[F]):=by
 obtain⟨⟨a,c,l,h1,h2⟩,h3,h4,h5,h6,h7,h8,h9,h10⟩:=h
 obtain⟨a',c',e,k1,k2,k3,k4⟩:=(h8 h14).rd
 have hl:(S.H.fi++[F]).length=S.H.fi.length+1:=by simp
 refine⟨a',c',by rw[hl];exact e,by rw[hl];exact k1,k2,k3,by rw[List.flatMap_append];simpa using k4,fun p hp => ?_⟩
 rcases List.mem_append.1 hp with hp|hp
 ·exact h1.ma.rd.st.good p hp
 ·rw[List.mem_singleton.1 hp]
  obtain⟨a9,c9,e9,q1,q2,q3,q4⟩:=h4.rd
  unfold lY at e9
  injection e9 with e9 e10 e11
  subst e9;subst e11
  exact⟨q1,q2,q3,q4⟩
theorem Nw {t:List En} (h:t.length=64):tL t=t.flatMap ik:=by
 have e:(List.range 64).map (fun i=>t.getD i zEn)=t:=by
  apply List.ext_getElem?
  intro i
  rw[List.getElem?_map]
  by_cases hi:i<64
  ·rw[List.getElem?_range hi,List.getElem?_eq_getElem (by omega)]
   show some (t.getD i zEn)=_
   rw[List.getD_eq_getElem?_getD,List.getElem?_eq_getElem (by omega)];rfl
  ·rw[List.getElem?_eq_none (by rw[List.length_range];omega),List.getElem?_eq_none (by omega)];rfl
 unfold tL
 rw[←List.flatMap_map (f:=fun i=>t.getD i zEn) (g:=ik),e]
theorem Je {f s ct:Nat} (hf:f≤40) (hs:s≤60) (hc:ct≤80):dh { tJ f s ct (List.replicate ct zPg) [] [] with sp:=[⟨true,[],zTb⟩] } [List.replicate 64 zEn]=qB f s ct:=by
 have e1:qB f s ct=⟨GG f,Ia s,zC s,zC ct,⟨[],ct⟩,[],[⟨true,[],zTb⟩]⟩:=if_pos ⟨⟨by omega,by omega⟩,⟨by omega,by omega⟩,by omega,by omega⟩
 have hz:dO (List.replicate 64 zEn)=zTb:=by decide +kernel
 rw[e1]
 unfold GG Ia zC dh tJ
 rw[if_pos (by omega),if_pos (by omega),if_pos (by omega),if_pos (by omega)]
 simp only[Int.toNat_natCast,List.length_cons,List.length_nil]
 have e2:dO (dE [List.replicate 64 zEn] 0)=zTb:=hz
 show (⟨⟨List.replicate f frZ,0⟩,List.replicate s 0,⟨List.replicate s zPg,[]⟩,⟨List.replicate ct zPg,[]⟩,⟨[],ct⟩,[],[⟨true,[],dO (dE [List.replicate 64 zEn] 0)⟩]⟩:Ma)=_
 rw[e2]
theorem yX {w0 w1 w2:World} {B B' : Nat} (h:Below B w0 w1) (h' : Below B' w1 w2) (hB:B≤B') (hw:B≤w0.heap.size):Below B w0 w2:=
 ⟨h'.os.trans h.os,h'.tape.trans h.tape,h'.output.trans h.output,Nat.le_trans h.size h'.size,fun x hx=>(h'.block x (Nat.lt_of_lt_of_le hx hB)).trans (h.block x hx)⟩
theorem kX {m:Ma} (h:Rt m):LX m:=by
 have h1:=h.pt
 have hw:=(jU _).1 h1.sw
 have hd:=(jU _).1 h1.dk
 have hst:=(kM h1.st).1
 refine⟨by have:=((eB _).1 h1.fr).1;omega,by have:=iC h1.sl;omega,by omega,by omega,by omega,by omega,⟨by omega,fun f hf=>by have:=qm h1.st f hf;omega⟩,by have:=Iw h.ca h1.st;omega,by have:=h1.spl;omega,fun s hs=>⟨?_,fun k hk => ?_⟩⟩
 ·have:=(fe.1 (h1.ar s hs)).1;omega
 ·have:=jT (iD (h1.tb s hs) k hk);omega
theorem Bb {s:St} {b:Int} (h:b∈jY s):ko s b=true:=by
 cases hu:ko s b with
 | true=>rfl
 | false=>exact absurd h (Lf hu)
theorem Mx {t:Tb} (h:bI t=0) (h0:∀n,(cB t n).k=0):t=zTb:=
 MP h zTb_right fun n=>by
  rw[kD]
  have h1:=(bH _).1 (kI h n)
  have h2:=h0 n
  rcases h1 with ⟨_,e1,e2⟩|⟨e,_⟩|⟨e,_⟩
  ·generalize cB t n=x at *
   obtain⟨a,b,c⟩:=x
   simp only at h2 e1 e2
   subst h2;subst e1;subst e2
   rfl
  ·omega
  ·omega
theorem FB (H:MH) (w:World) (h:rC w H) (hR:Rt H.ma) :
  Calls Tryz.prog 48 #[.agg (bR H)] w fun r w'=>r = .returned (.int .i64 0)∧Below w.heap.size w w':=by
 have hh:=Lib.hid h
 have hR':=Lib.hid hR
 have hpt:=Lib.hid hR.pt
 have z1:H.dk.blocks.length≤1000:=(kX hR).dkb
 have z2:H.dk.queue.length≤1000:=(kX hR).dkq
 clear hR
 go_enter Tryz.func48,Tryz.ntmps48
 go_upto_region 1 with (fail)
 refine fo (fun W=>Code.wp _ _ _ _ W) fun w1 hb1 bx1 hs1 => ?_
 have bx1:aF w1 w.heap.size (bR H) 41:=bx1
 have h1:=h.below hb1
 clear h hs1
 have r1:cZ w1 (some ⟨w.heap.size,0,none⟩) [.slice H.af H.m.fs.length H.cf,.int .i64 H.m.hand]:=bQ bx1 0 2
 go_wp2_with (refine ay _ _ rfl w.heap.size 0 rfl rfl _ r1 _ Tryz.underlying28 rfl mem_size ?_)
 refine (AX H.m H.af H.cf _ h1.fr).mono ?_
 rintro r w2 ⟨rfl,hb2⟩
 rw[show di H.m=0 from hpt.out.fr]
 have h2:=h1.below hb2
 have bx2:=bx1.ext hb2
 have hbr2:=ae hb1 hb2
 clear h1 bx1 hb1 hb2 r1
 have hc:=bx2.cell
 unfold bR at hc
 go_wp2_with fail
 refine (AJ H.sl H.asl H.csl _ h2.sl.rd (by have:=h2.sl.le;have:=h2.sl.mx;unfold maxLen at this;omega)).mono ?_
 rintro r w2' ⟨rfl,rfl⟩
 rw[show dn H.sl=0 from hpt.out.sl]
 clear hc
 have r2:cZ w2' (some ⟨w.heap.size,3,none⟩) [.slice H.wb H.sw.blocks.length H.cwb,.slice H.wq H.sw.queue.length H.cwq]:=bQ bx2 3 2
 go_wp2_with (refine ay _ _ rfl w.heap.size 3 rfl rfl _ r2 _ Tryz.underlying34 rfl disk_size ?_)
 refine (oC H.sw H.wb H.cwb H.wq H.cwq _ h2.sw).mono ?_
 rintro r w3 ⟨rfl,hb3⟩
 rw[show bK H.sw=0 from hpt.out.sw]
 have h3:=h2.below hb3
 have bx3:=bx2.ext hb3
 have hbr3:=ae hbr2 hb3
 clear h2 bx2 hbr2 hb3 r2
 have r3:cZ w3 (some ⟨w.heap.size,5,none⟩) [.slice H.db H.dk.blocks.length H.cdb,.slice H.dq H.dk.queue.length H.cdq]:=bQ bx3 5 2
 go_wp2_with (refine ay _ _ rfl w.heap.size 5 rfl rfl _ r3 _ Tryz.underlying34 rfl disk_size ?_)
 refine (oC H.dk H.db H.cdb H.dq H.cdq _ h3.dk).mono ?_
 rintro r w4 ⟨rfl,hb4⟩
 rw[show bK H.dk=0 from hpt.out.dk]
 have h4:=h3.below hb4
 have bx4:=bx3.ext hb4
 have hbr4:=ae hbr3 hb4
 clear h3 bx3 hbr3 hb4 r3
 have r4:cZ w4 (some ⟨w.heap.size,7,none⟩) [.slice H.ai H.fi.length H.ci,.int .i64 H.ct]:=bQ bx4 7 2
 go_wp2_with (refine ay _ _ rfl w.heap.size 7 rfl rfl _ r4 _ Tryz.underlying37 rfl store_size ?_)
 refine (Am H.fi H.ct H.ai H.ci _ h4.st h4.c64).mono ?_
 rintro r w5 ⟨rfl,hb5⟩
 rw[show aR (bT H.fi H.ct)=0 from hpt.out.st]
 have bx5:=bx4.ext hb5
 have hbr5:=ae hbr4 hb5
 clear h4 bx4 hbr4 hb5 r4
 have l1:Hid (H.sw.blocks.length=H.sl.length):=Lib.hid hpt.out.swl
 have l2:Hid ((H.dk.blocks.length:Int)=H.ct):=Lib.hid hpt.out.dkl
 have hc:=bx5.cell
 unfold bR at hc
 rw[←l2.out,l1.out] at hc
 go_upto_region 18 with (fail)
 rw[←l1.out,l2.out] at hc
 go_wp2
 go_loopw [68] (fun s68 wr => ∃k:Nat,k≤H.dk.blocks.length∧s68 = .int .i64 k∧Below w.heap.size w wr∧aF wr w.heap.size (bR H) 41) (fun s68 _=>H.dk.blocks.length-(intOf s68).toNat)
 case atStart=>exact⟨0,Nat.zero_le _,rfl,hbr5,bx5⟩
 case round=>
  clear hbr5 bx5 hc
  obtain⟨k,hk,rfl,hbr,bx⟩:=hrel
  have hM:=hh.out.below hbr
  by_cases hkl:k<H.dk.blocks.length
  ·obtain⟨bd,od,hda,hrd⟩:=gB jF (by decide) hM.dk.rb k hkl
   have hki:(k:Int)<(H.dk.blocks.length:Int):=by omega
   have hor:Hid ((k:Int)∈jY H.ma.st∨H.dk.blocks[k]=zPg):=Lib.hid (by
    have:=hR'.out.trim.1 k (by omega) (by exact_mod_cast hkl)
    rw[Int.toNat_natCast] at this
    have e:H.ma.dk.blocks.getD k zPg=H.dk.blocks[k]:=by
     show H.dk.blocks.getD k zPg=_
     rw[List.getD_eq_getElem?_getD,List.getElem?_eq_getElem hkl];rfl
    rw[e] at this
    exact this)
   generalize H.dk.blocks[k]=P at *
   rw[hda]
   go_wp2_with (first | (refine ay _ _ rfl bd (od+k*8) rfl rfl _ hrd _ Tryz.underlying79 rfl psize ?_) | (refine aH rfl _ _ _ rfl (dW P) rfl rfl rfl psize (eD _) ?_))
   intro w6 hb6 px6
   have hbr6:=ae hbr hb6
   have bx6:=bx.ext hb6
   have hM6:=hM.below hb6
   clear hbr bx hb6 hrd hM
   have r6:cZ w6 (some ⟨w.heap.size,7,none⟩) [.slice H.ai H.fi.length H.ci,.int .i64 H.ct]:=bQ bx6 7 2
   go_wp2_with (refine ay _ _ rfl w.heap.size 7 rfl rfl _ r6 _ Tryz.underlying37 rfl store_size ?_)
   refine (pV H.fi H.ct k H.ai H.ci _ hM6.st).mono ?_
   rintro r w7 ⟨rfl,hb7⟩
   have hbr7:=ae hbr6 hb7
   have bx7:=bx6.ext hb7
   have px7:=px6.ext hb7
   clear hbr6 bx6 hM6 px6 hb7 r6
   cases hu:ko (bT H.fi H.ct) (k:Int) with
   | true=>
    clear px7
    go_wp2
    go_roundw
    case rel=>exact⟨k+1,by omega,by go_num,hbr7,bx7⟩
    case measure=>simp[intOf];omega
   | false=>
    have hP:P=zPg:=by
     rcases hor.out with e|e
     ·have h9:=Bb e
      exact absurd (h9.symm.trans hu) (by decide)
     ·exact e
    subst hP
    have hcp:=px7.cell
    rw[lit0] at hcp
    have hE:∀W,(Op.equalIn 10000 79 (.agg #[.int .u8 0,.int .u8 0,.int .u8 0,.int .u8 0,.int .u8 0,.int .u8 0,.int .u8 0,.int .u8 0]) (.agg #[.int .u8 0,.int .u8 0,.int .u8 0,.int .u8 0,.int .u8 0,.int .u8 0,.int .u8 0,.int .u8 0])).run Tryz.prog W = .ok true W:=fun W=>Nu zPg zPg W
    go_wp2
    go_roundw
    case rel=>exact⟨k+1,by omega,by go_num,hbr7,bx7⟩
    case measure=>simp[intOf];omega
  ·have hki:¬(k:Int)<(H.dk.blocks.length:Int):=by omega
   have hc:=bx.cell
   unfold bR at hc
   clear hM
   go_wp2
   go_loopw [88] (fun s88 wr => ∃k:Nat,k≤H.dk.queue.length∧s88 = .int .i64 k∧Below w.heap.size w wr∧aF wr w.heap.size (bR H) 41) (fun s88 _=>H.dk.queue.length-(intOf s88).toNat)
   case atStart=>exact⟨0,Nat.zero_le _,rfl,hbr,bx⟩
   case round=>
    clear hbr bx hc hki
    obtain⟨k,hk,rfl,hbr,bx⟩:=hrel
    have hM:=hh.out.below hbr
    by_cases hkl:k<H.dk.queue.length
    ·obtain⟨bd,od,hda,hrd⟩:=gB sG (by decide) hM.dk.rq k hkl
     have hki:(k:Int)<(H.dk.queue.length:Int):=by omega
     have hus:ko (bT H.fi H.ct) (H.dk.queue[k]).1=true:=Bb (hR'.out.trim.2 _ (List.getElem_mem hkl))
     generalize H.dk.queue[k]=X at *
     rw[hda]
     go_wp2_with (first | (refine ay _ _ rfl bd (od+k*9) rfl rfl _ hrd _ Tryz.underlying86 rfl put_size ?_) | (refine aH rfl _ _ _ rfl (Ai X) rfl rfl rfl put_size (Ej _) ?_))
     intro w6 hb6 px6
     have hbr6:=ae hbr hb6
     have bx6:=bx.ext hb6
     have hM6:=hM.below hb6
     clear hbr bx hb6 hrd hM
     have hcp:=px6.cell
     unfold Ai at hcp
     have r6:cZ w6 (some ⟨w.heap.size,7,none⟩) [.slice H.ai H.fi.length H.ci,.int .i64 H.ct]:=bQ bx6 7 2
     go_wp2_with (refine ay _ _ rfl w.heap.size 7 rfl rfl _ r6 _ Tryz.underlying37 rfl store_size ?_)
     refine (pV H.fi H.ct X.1 H.ai H.ci _ hM6.st).mono ?_
     rintro r w7 ⟨rfl,hb7⟩
     have hbr7:=ae hbr6 hb7
     have bx7:=bx6.ext hb7
     rw[hus]
     clear hbr6 bx6 hM6 px6 hb7 r6 hcp hus
     go_wp2
     go_roundw
     case rel=>exact⟨k+1,by omega,by go_num,hbr7,bx7⟩
     case measure=>simp[intOf];omega
    ·have hki:¬(k:Int)<(H.dk.queue.length:Int):=by omega
     have hc:=bx.cell
     unfold bR at hc
     have hs4:H.sp.length≤4:=by have:=hpt.out.spl;rw[qw] at this;exact this
     clear hM
     go_wp2
     go_loopw [106] (fun s106 wr => ∃k:Nat,k≤H.sp.length∧s106 = .int .i64 k∧Below w.heap.size w wr) (fun s106 _=>H.sp.length-(intOf s106).toNat)
     case atStart=>exact⟨0,Nat.zero_le _,rfl,hbr⟩
     case round=>
      clear hbr bx hc hki
      obtain⟨k,hk,rfl,hbr⟩:=hrel
      have hM:=hh.out.below hbr
      by_cases hkl:k<H.sp.length
      ·obtain⟨bd,od,P,hda,hP,hrd⟩:=kL hM.sp.rd k hkl
       have hki:(k:Int)<(H.sp.length:Int):=by omega
       have hgood:=lh hM hP
       have hsP:P.sp∈H.ma.sp:=by show P.sp∈H.sp.map PS.sp;exact List.mem_map.2 ⟨P,List.mem_of_getElem? hP,rfl⟩
       have hal:(aZ P.ar).1=0:=hpt.out.ar P.sp hsP
       have htb:bI P.tb=0:=hpt.out.tb P.sp hsP
       have hdead:Hid (P.lv=false→P.ar=[]∧P.tb=zTb):=Lib.hid fun hl=>by
        have h9:=hR'.out.live k (by rw[jr hP];exact hl)
        rw[jr hP] at h9
        exact⟨h9.1,Mx htb fun n=>by
         have:=h9.2 n
         unfold ent at this
         rw[jr hP] at this
         exact this⟩
       rw[hda]
       go_wp2_with (first | (refine ay _ _ rfl bd (od+k*10) rfl rfl _ hrd _ Tryz.underlying55 rfl space_size ?_) | (refine aH rfl _ _ _ rfl (nA P) rfl rfl rfl space_size (by rw[←Array.all_toList,List.all_eq_true];exact hgood.one) ?_))
       intro w6 hb6 px6
       have hbr6:=ae hbr hb6
       have hg6:=hgood.below hb6
       have hA:=hg6.ars
       have hcp:=px6.cell
       unfold nA at hcp
       clear hbr hb6 hrd hM hgood
       go_wp2_with fail
       refine (xG P.ar P.aa P.ac _ hA).mono ?_
       rintro r w7 ⟨rfl,hb7⟩
       rw[show Cj (aZ P.ar)=#[.int .i64 0,.int .i64 (aZ P.ar).2] from by unfold Cj;rw[hal]]
       have hbr7:=ae hbr6 hb7
       have hg7:=hg6.below hb7
       have px7:=px6.ext hb7
       clear hcp px6 hbr6 hg6 hb7 hA
       go_wp2_with (refine aH rfl _ _ _ rfl #[.int .i64 0,.int .i64 (aZ P.ar).2] rfl rfl rfl fau_size (jb _ _) ?_)
       intro w8 hb8 ux8
       have hcu:=ux8.cell
       have hbr8:=ae hbr7 hb8
       have hg8:=hg7.below hb8
       have px8:=px7.ext hb8
       clear hbr7 hg7 px7 hb8
       have hrt:cZ w8 (some ⟨wr.heap.size,2,none⟩) (iP P.ts).toList:=bQ px8 2 8
       go_wp2_with (refine ay _ _ rfl wr.heap.size 2 rfl rfl _ hrt _ Tryz.underlying53 tab_agg tab_size ?_)
       refine (Aw P.tb (iP P.ts) _ hg8.tb).mono ?_
       rintro r w9 ⟨rfl,hb9⟩
       rw[htb]
       have hbr9:=ae hbr8 hb9
       have hg9:=hg8.below hb9
       have px9:=px8.ext hb9
       clear hcu ux8 hbr8 hg8 px8 hb9 hrt
       have hcp:=px9.cell
       unfold nA at hcp
       cases hlv:P.lv with
       | true=>
        rw[hlv] at hcp
        go_wp2
        go_roundw
        case rel=>exact⟨k+1,by omega,by go_num,hbr9⟩
        case measure=>simp[intOf];omega
       | false=>
        obtain⟨e1,e2⟩:=hdead.out hlv
        have hl0:P.ar.length=0:=by rw[e1];rfl
        rw[hlv,hl0] at hcp
        have hrt:cZ w9 (some ⟨wr.heap.size,2,none⟩) (iP P.ts).toList:=bQ px9 2 8
        have hT:zJ w9 (iP P.ts) zTb:=by have:=hg9.tb;rw[e2] at this;exact this
        clear hl0
        go_wp2_with (refine ay _ _ rfl wr.heap.size 2 rfl rfl _ hrt _ Tryz.underlying53 tab_agg tab_size ?_)
        refine (EZ zTb zTb (iP P.ts) (iP nTs) _ hT (oU _ 0).rd).mono ?_
        rintro r wa ⟨rfl,hba⟩
        rw[CF]
        have hbra:=ae hbr9 hba
        go_wp2
        go_roundw
        case rel=>exact⟨k+1,by omega,by go_num,hbra⟩
        case measure=>simp[intOf];omega
      ·have hki:¬(k:Int)<(H.sp.length:Int):=by omega
       go_wp2
       go_ret
       exact⟨rfl,hbr⟩
theorem uS {α:Type} (q:α→Bool) (l:List α) (j:Nat) (hj:j<l.length):(l.take (j+1)).countP q=(l.take j).countP q+if q l[j]=true then 1 else 0:=by
 rw[List.take_add_one,List.getElem?_eq_getElem hj,List.countP_append]
 simp[List.countP_cons]
theorem FX (H:MH) (g:Pg) (e:En) (w:World) (h:rC w H) (hR:Rt H.ma) (hf:JY H.ma g e) (hk:e.k≠0) (he:dC e=0) :
  Calls Tryz.prog 51 #[.agg (bR H),.agg (nW (some g)),.agg (fI e)] w fun r w'=>r = .returned (.int .i64 0)∧Below w.heap.size w w':=by
 have hR':=Lib.hid hR
 have hf':=Lib.hid hf
 clear hR hf
 go_enter Tryz.func51,Tryz.ntmps51
 go_upto_region 1 with (fail)
 refine Lu (fun W=>Code.wp _ _ _ _ W) fun w1 hb1 bx1 ox1 ex1 hs1 => ?_
 have bx1:aF w1 w.heap.size (bR H) 41:=bx1
 have ox1:aF w1 (w.heap.size+1) #[.bool true,.bool g.rd,.bool g.wr,.bool g.sh,.int .i64 g.fi,.int .i64 g.pg] 109:=ox1
 have ex1:aF w1 (w.heap.size+1+1) #[.int .i64 e.k,.int .i64 e.n,.bool e.w] 89:=ex1
 have h1:=h.below hb1
 clear h hs1
 have hc:=bx1.cell
 unfold bR at hc
 have ho:=ox1.cell
 have hx:=ex1.cell
 have hcase:=(bH _).1 he
 by_cases k2:e.k=2
 ·obtain⟨q1,q2⟩:=hf'.out.sw k2
  have q1' : e.n<(H.sl.length:Int):=q1
  rw[k2] at hx
  rw[q2] at ho
  clear q1 q2 hk hcase he k2
  go_wp2
  go_ret
  exact⟨rfl,hb1⟩
 ·have k1:e.k=1:=by omega
  have q1' : e.n<(H.m.fs.length:Int):=hf'.out.lt k1
  obtain⟨f1,f2,f3,f4,f5⟩:=hf'.out.fr k1
  have hn0:0≤e.n:=by omega
  obtain⟨F,hF⟩:∃F:Nat,e.n=F:=⟨e.n.toNat,by omega⟩
  have hFl:F<H.m.fs.length:=by omega
  obtain⟨bf,of,haf,hel⟩:=gB eT (by decide) h1.fr.rd F hFl
  have hFe:bB H.ma e.n.toNat=H.m.fs[F]:=by rw[hF,Int.toNat_natCast];unfold bB;show H.m.fs.getD F fr0=_;rw[List.getD_eq_getElem?_getD,List.getElem?_eq_getElem hFl];rfl
  have hfe:dD H.m.fs[F]=0:=by rw[←hFe,hF,Int.toNat_natCast];exact hR'.out.pt.frE (m:=H.ma) hFl
  rw[hFe] at f1 f2 f4 f5
  have hfm : -1≤(H.m.fs[F]).f:=by
   unfold dD at hfe
   split at hfe
   ·exact absurd hfe (by decide)
   ·rename_i hb
    unfold vS at hb
    simp at hb
    omega
  generalize H.m.fs[F]=X at *
  rw[k1,hF] at hx
  rw[haf] at hc
  have hFi:(F:Int)<(H.m.fs.length:Int):=by omega
  clear hcase he hk k2 hFe q1' hn0
  go_wp2_with (first | (refine ay _ _ rfl bf (of+F*13) rfl rfl _ hel _ Tryz.underlying81 rfl frame_size ?_) | (refine aH rfl _ _ _ rfl (qi X) rfl rfl rfl frame_size (mH _) ?_))
  intro w4 hb4 fx4
  have hbr4:=ae hb1 hb4
  have ho:=(ox1.ext hb4).cell
  have hx:=(ex1.ext hb4).cell
  rw[k1] at hx
  have hfx:=fx4.cell
  unfold qi at hfx
  clear bx1 ox1 ex1 h1 hc hb1 hb4 hel fx4
  by_cases c1:X.f<0
  ·have hm1:X.f = -1:=by omega
   have hsh:g.sh=false:=by
    cases hs:g.sh with
    | false=>rfl
    | true=>have:=f2 hs;omega
   rw[hm1] at hfx
   rw[hsh] at ho
   cases hw:e.w with
   | false=>
    rw[hw] at hx
    by_cases c2:0≤g.fi
    ·have c3:¬(-1:Int)=g.fi:=by omega
     clear f1 f2 f3 f4 f5 hm1
     go_wp2
     all_goals go_ret
     all_goals exact⟨rfl,hbr4⟩
    ·clear f1 f2 f3 f4 f5 hm1
     go_wp2
     all_goals go_ret
     all_goals exact⟨rfl,hbr4⟩
   | true=>
    rw[hw] at hx
    have h3:=f3 hw
    have h5:=f5 hw c1
    rw[h3] at ho
    by_cases c2:0≤g.fi
    ·have c3:¬(-1:Int)=g.fi:=by omega
     clear f1 f2 f3 f4 f5 hm1
     go_wp2
     all_goals go_ret
     all_goals exact⟨rfl,hbr4⟩
    ·clear f1 f2 f3 f4 f5 hm1
     go_wp2
     all_goals go_ret
     all_goals exact⟨rfl,hbr4⟩
  ·have hx0:0≤X.f:=by omega
   obtain⟨p1,p2⟩:=f1 hx0
   rw[←p1,←p2] at ho
   have c2:(X.f == -1)=false:=by simp;omega
   clear p1 p2
   cases hw:e.w with
   | false=>
    rw[hw] at hx
    clear f1 f2 f3 f4 f5
    go_wp2
    all_goals go_ret
    all_goals exact⟨rfl,hbr4⟩
   | true=>
    rw[hw] at hx
    have h3:=f3 hw
    have h4:=f4 hw hx0
    rw[h3,h4] at ho
    clear f1 f2 f3 f4 f5
    go_wp2
    all_goals go_ret
    all_goals exact⟨rfl,hbr4⟩
theorem zP {l:List En} (h:l.length=64):oK l=(tL l).toArray:=by
 unfold oK tL
 congr 1
 have e:l=(List.range 64).map fun i=>l.getD i zEn:=by
  apply List.ext_getElem
  ·simp[h]
  ·intro i h1 h2
   simp[List.getD_eq_getElem?_getD,List.getElem?_eq_getElem h1]
 conv=>lhs;rw[e,List.flatMap_map]
theorem rP (H:MH) (kd k:Int) (w:World) (h:rC w H) (hR:Rt H.ma) :
  Calls Tryz.prog 52 #[.agg (bR H),.int .i64 kd,.int .i64 k] w fun r w'=>r = .returned (.int .i64 (bX H.ma kd k:Int))∧Below w.heap.size w w':=by
 have hpt:=Lib.hid hR.pt
 have hh:=Lib.hid h
 have hs4:H.sp.length≤4:=by have:=hR.pt.spl;rw[qw] at this;exact this
 clear hR
 go_enter Tryz.func52,Tryz.ntmps52
 go_upto_region 1 with (fail)
 refine fo (fun W=>Code.wp _ _ _ _ W) fun w1 hb1 bx1 hs1 => ?_
 have bx1:aF w1 w.heap.size (bR H) 41:=bx1
 clear h hs1
 have hc:=bx1.cell
 unfold bR at hc
 go_wp2
 go_loopw [15,7] (fun s15 s7 wr => ∃p n:Nat,p≤H.sp.length∧s15 = .int .i64 p∧s7 = .int .i64 n∧n≤64*p∧Below w.heap.size w wr∧Hid (n=((H.sp.take p).map fun s=>(bG s.tb).countP (kF kd k)).sum)) (fun s15 _ _=>H.sp.length-(intOf s15).toNat)
 case atStart=>exact⟨0,0,Nat.zero_le _,rfl,rfl,Nat.le_refl _,hb1,Lib.hid (by simp)⟩
 case round=>
  clear hb1 bx1 hc
  obtain⟨p,n,hp,rfl,rfl,hn,hbr,hsum⟩:=hrel
  have hM:=hh.out.below hbr
  by_cases hpl:p<H.sp.length
  ·obtain⟨bd,od,P,hda,hP,hrd⟩:=kL hM.sp.rd p hpl
   have hpi:(p:Int)<(H.sp.length:Int):=by omega
   have hgood:=lh hM hP
   have hsP:P.sp∈H.ma.sp:=by show P.sp∈H.sp.map PS.sp;exact List.mem_map.2 ⟨P,List.mem_of_getElem? hP,rfl⟩
   have htb:bI P.tb=0:=hpt.out.tb P.sp hsP
   have htake:Hid (((H.sp.take (p+1)).map fun s=>(bG s.tb).countP (kF kd k)).sum=n+(bG P.tb).countP (kF kd k)):=Lib.hid (by
    rw[List.take_add_one,hP,List.map_append,List.sum_append,←hsum.out];simp)
   rw[hda]
   go_wp2_with (first | (refine ay _ _ rfl bd (od+p*10) rfl rfl _ hrd _ Tryz.underlying55 rfl space_size ?_) | (refine aH rfl _ _ _ rfl (nA P) rfl rfl rfl space_size (by rw[←Array.all_toList,List.all_eq_true];exact hgood.one) ?_))
   intro w6 hb6 px6
   have hbr6:=ae hbr hb6
   have hg6:=hgood.below hb6
   clear hbr hb6 hrd hM hgood
   have hrt:cZ w6 (some ⟨wr.heap.size,2,none⟩) (iP P.ts).toList:=bQ px6 2 8
   go_wp2_with (refine ay _ _ rfl wr.heap.size 2 rfl rfl _ hrt _ Tryz.underlying53 tab_agg tab_size ?_)
   refine (ui P.tb (iP P.ts) _ hg6.tb htb).mono ?_
   rintro r w7 ⟨rfl,hb7⟩
   have hbr7:=ae hbr6 hb7
   clear hrt px6 hg6 hbr6 hb7
   have hfl:=qg P.tb
   generalize bG P.tb=l at *
   rw[zP hfl]
   go_wp2
   go_loopw [22,7] (fun s22 s7 wr => ∃i m:Nat,i≤64∧s22 = .int .i64 i∧s7 = .int .i64 m∧m≤64*p+i∧Below w.heap.size w wr∧Hid (m=n+(l.take i).countP (kF kd k))) (fun s22 _ _=>64-(intOf s22).toNat)
   case atStart=>exact⟨0,n,Nat.zero_le _,rfl,rfl,by omega,hbr7,Lib.hid (by simp)⟩
   case round=>
    clear hbr7 hn
    obtain⟨i,m,hi,rfl,rfl,hm,hbr,hs⟩:=hrel
    by_cases hil:i<64
    ·have hii:(i:Int)<64:=by omega
     have hil' : i<l.length:=by omega
     have hct:Hid ((l.take (i+1)).countP (kF kd k)=(l.take i).countP (kF kd k)+if kF kd k l[i]=true then 1 else 0):=Lib.hid (uS _ _ _ hil')
     have hE:l.getD i zEn=l[i]:=by rw[List.getD_eq_getElem?_getD,List.getElem?_eq_getElem hil'];rfl
     generalize l[i]=E at *
     have hix:=vo l i hil E hE
     clear hE
     go_wp2_with (refine aH rfl _ _ _ rfl (fI E) rfl rfl rfl entry_size (by simp[fI,Value.oneCell']) ?_)
     intro w8 hb8 ex8
     have hbr8:=ae hbr hb8
     have hx:=ex8.cell
     unfold fI at hx
     clear hix hbr hb8 ex8
     by_cases c1:E.k=kd
     ·by_cases c2:E.n=k
      ·have hs' : Hid (m+1=n+(l.take (i+1)).countP (kF kd k)):=Lib.hid (by rw[hct.out,if_pos (by unfold kF;simp[c1,c2]),hs.out];omega)
       clear hs hct
       go_wp2
       go_roundw
       case rel=>exact⟨i+1,m+1,by omega,by go_num,by go_num,by omega,hbr8,hs'⟩
       case measure=>simp[intOf];omega
      ·have hs' : Hid (m=n+(l.take (i+1)).countP (kF kd k)):=Lib.hid (by rw[hct.out,if_neg (by unfold kF;simp[c1,c2]),hs.out];omega)
       clear hs hct
       go_wp2
       go_roundw
       case rel=>exact⟨i+1,m,by omega,by go_num,rfl,by omega,hbr8,hs'⟩
       case measure=>simp[intOf];omega
     ·have hs' : Hid (m=n+(l.take (i+1)).countP (kF kd k)):=Lib.hid (by rw[hct.out,if_neg (by unfold kF;simp[c1]),hs.out];omega)
      clear hs hct
      go_wp2
      go_roundw
      case rel=>exact⟨i+1,m,by omega,by go_num,rfl,by omega,hbr8,hs'⟩
      case measure=>simp[intOf];omega
    ·have hii:¬(i:Int)<64:=by omega
     have hs' : Hid (m=((H.sp.take (p+1)).map fun s=>(bG s.tb).countP (kF kd k)).sum):=Lib.hid (by rw[htake.out,hs.out,List.take_of_length_le (by omega)])
     clear hs htake
     go_wp2
     go_roundw
     case rel=>exact⟨p+1,m,by omega,by go_num,rfl,by omega,hbr,hs'⟩
     case measure=>simp[intOf];omega
  ·have hpi:¬(p:Int)<(H.sp.length:Int):=by omega
   have hend:Hid (n=bX H.ma kd k):=Lib.hid (by
    rw[hsum.out,List.take_of_length_le (by omega)]
    unfold bX MH.ma
    rw[List.map_map]
    rfl)
   clear hsum hM
   go_wp2
   go_ret
   exact⟨by rw[←hend.out];rfl,hbr⟩
theorem JO {t:Tb} {n:Nat} (hn:n<64):(bG t).getD n zEn=cB t (n:Int):=by
 unfold bG
 rw[List.getD_eq_getElem?_getD,List.getElem?_map,List.getElem?_range hn];rfl
theorem Ju {P:Program} {ρ:Operand→Value} {o:Oper} {w:World} {t e:TypeId} {x y:Operand} {b off n i sz:Nat} {k:IntKind} (ho:o.op = .indexAddr t x y) (hx:ρ x = .pointer (some ⟨b,off,none⟩)) (hy:ρ y = .int k (i:Int)) (hi:i<n)
  (hu:P.underlying t=some (.array n e)) (hs:(P.info? e).map (·.size)=some sz):(execOp ρ o).run P w = .ok (.value (.pointer (some ⟨b,off+i*sz,none⟩))) w:=by
 obtain⟨inf,hinf,hsz⟩:∃inf,P.info? e=some inf∧inf.size=sz:=by
  cases h:P.info? e with
  | none=>rw[h] at hs;cases hs
  | some inf=>rw[h] at hs;exact⟨inf,rfl,by simpa using hs⟩
 have hso:(Go.sizeOf e).run P w = .ok sz w:=by simp[Go.sizeOf,typeInfo,hinf,go_sem,hsz]
 simp[execOp,go_sem,ho,hx,hy,hu,hso,hi]
theorem Na {w:World} {go i:Nat} {f:Nat→Option Pg} {o:Option Pg} {T:TypeId} (h:aF w go (fC f) T) (hi:i<64) (ho:f i=o):cZ w (some ⟨go,i*6,none⟩) (nW o).toList:=by
 have h1:=bQ h (i*6) 6
 have h2:=EL f i hi
 rw[ho] at h2
 have e:((fC f).toList.drop (i*6)).take 6=(nW o).toList:=by
  rw[←h2,Array.toList_extract]
  simp[List.extract_eq_take_drop]
 rwa [e] at h1
theorem rz (H : MH) (w : World) (h : rC w H) (hR : Rt H.ma) :
    Calls Tryz.prog 14 #[.agg (bR H)] w fun r w' => r = .returned (.int .i64 0) ∧ Below w.heap.size w w' := by
  have hh := Lib.hid h
  have hR' := Lib.hid hR
  have hz := Lib.hid (kX hR)
  have z1 : H.ca.length ≤ 1000 := hz.out.ca
  have z2 : H.m.fs.length ≤ 1000 := hz.out.fs
  have z3 : H.sl.length ≤ 1000 := hz.out.sl
  have z4 : H.sp.length ≤ 4 := by have := hR.pt.spl; rw [qw] at this; exact this
  have hfew := Lib.hid (qm hR.pt.st)
  clear hR
  go_enter Tryz.func14, Tryz.ntmps14
  go_upto_region 1 with (fail)
  refine fo (fun W => Code.wp _ _ _ _ W) fun w1 hb1 bx1 hs1 => ?_
  have bx1 : aF w1 w.heap.size (bR H) 41 := bx1
  have h1 := h.below hb1
  clear h hs1
  go_wp2_with (refine ay _ _ rfl w.heap.size 0 rfl rfl _ bx1.rd _ Tryz.underlying41 rfl machine_size ?_)
  refine (FB H _ h1 hR'.out).mono ?_
  rintro r w2 ⟨rfl, hb2⟩
  have bx2 := bx1.ext hb2
  have hbr2 := ae hb1 hb2
  clear h1 bx1 hb1 hb2
  have hc := bx2.cell
  unfold bR at hc
  go_wp2
  go_loopw [29] (fun s29 wr => ∃ q : Nat, q ≤ H.ca.length ∧ s29 = .int .i64 q ∧ Below w.heap.size w wr ∧ aF wr w.heap.size (bR H) 41) (fun s29 _ => H.ca.length - (intOf s29).toNat)
  case atStart => exact ⟨0, Nat.zero_le _, rfl, hbr2, bx2⟩
  case round =>
    clear hbr2 bx2 hc
    obtain ⟨q, hq, rfl, hbr, bx⟩ := hrel
    have hM := hh.out.below hbr
    by_cases hql : q < H.ca.length
    · obtain ⟨bc, oc, hac, hel⟩ := gB kr (by decide) hM.ca.rd q hql
      have hqi : (q : Int) < (H.ca.length : Int) := by omega
      have hcm : H.ca[q] ∈ H.ma.ca := List.getElem_mem hql
      obtain ⟨⟨f1, f2⟩, f3, f4⟩ := hR'.out.ca.file _ hcm
      obtain ⟨f5, f6⟩ := hR'.out.ca.lt _ hcm
      obtain ⟨f7, f8, f9⟩ := hR'.out.ca.fr _ hcm
      have hprev : Hid (∀ q1 : Nat, q = q1 + 1 → ∃ d : Cc, H.ca[q1]? = some d ∧ xP d H.ca[q] ∧ 0 ≤ d.f ∧ d.f < 1000 ∧ 0 ≤ d.i ∧ d.i < 12) := Lib.hid (fun q1 e => by
        have h1 : q1 < H.ca.length := by omega
        refine ⟨H.ca[q1], List.getElem?_eq_getElem h1, (List.pairwise_iff_getElem.1 hR'.out.ca.srt) q1 q h1 hql (by omega), ?_⟩
        obtain ⟨⟨g1, g2⟩, g3, g4⟩ := hR'.out.ca.file _ (List.getElem_mem h1 : H.ca[q1] ∈ H.ma.ca)
        have hm : aV H.ma.st H.ca[q1].f ∈ H.ma.st.fs := by
          unfold aV
          rw [if_pos g1, List.getD_eq_getElem?_getD, List.getElem?_eq_getElem (by omega)]
          exact List.getElem_mem _
        have := hfew.out _ hm
        have hz5 := hz.out.st.1
        exact ⟨g1, by omega, g3, by omega⟩)
      generalize hcq : H.ca[q] = c at *
      obtain ⟨F, hcF⟩ : ∃ F : Nat, c.f = F := ⟨c.f.toNat, by omega⟩
      have hFl : F < H.fi.length := by have : H.ma.st.fs.length = H.fi.length := List.length_map _; omega
      obtain ⟨bf, of, hai, hfl⟩ := gB kv (by decide) hM.st.rd F hFl
      have hPl : Hid (aV H.ma.st c.f = (H.fi[F]).fi) := Lib.hid (by
        rw [hcF]
        exact jZ (by show (H.fi.map PF.fi)[F]? = _; rw [List.getElem?_map, List.getElem?_eq_getElem hFl]; rfl))
      have f4' : c.i < ((H.fi[F]).l.length : Int) := by rw [hPl.out] at f4; exact f4
      generalize H.fi[F] = P at *
      obtain ⟨K, hcK⟩ : ∃ K : Nat, c.k = K := ⟨c.k.toNat, by omega⟩
      have hKl : K < H.m.fs.length := by have : (K : Int) < (H.m.fs.length : Int) := by rw [← hcK]; exact f6
                                         omega
      obtain ⟨bm, om, ham, hfm⟩ := gB eT (by decide) hM.fr.rd K hKl
      have hKe : bB H.ma c.k.toNat = H.m.fs[K] := by rw [hcK, Int.toNat_natCast]; unfold bB; show H.m.fs.getD K fr0 = _; rw [List.getD_eq_getElem?_getD, List.getElem?_eq_getElem hKl]; rfl
      rw [hKe] at f7 f8 f9
      generalize H.m.fs[K] = X at *
      have hlt5 : Hid (0 ≤ c.f ∧ c.f < 1000 ∧ 0 ≤ c.i ∧ c.i < 12) := Lib.hid (by
        have hm : aV H.ma.st c.f ∈ H.ma.st.fs := by
          unfold aV
          rw [if_pos f1, List.getD_eq_getElem?_getD, List.getElem?_eq_getElem (by omega)]
          exact List.getElem_mem _
        have := hfew.out _ hm
        have hz5 := hz.out.st.1
        exact ⟨f1, by omega, f3, by omega⟩)
      have c1 : ¬ c.f < 0 := by omega
      have c2 : ¬ (H.fi.length : Int) ≤ c.f := by omega
      have c3 : ¬ c.i < 0 := by omega
      have c4 : ¬ (P.l.length : Int) ≤ c.i := by omega
      have c5 : ¬ c.k < 0 := by omega
      have c6 : ¬ (H.m.fs.length : Int) ≤ c.k := by omega
      have hc78 := Lib.hid (And.intro f7 (And.intro f8 f9))
      clear f1 f2 f3 f4 f4' f5 f6 f7 f8 f9 hKe hPl hcm
      rw [hac]
      go_wp2_with (first | (refine ay _ _ rfl bc (oc + q * 3) rfl rfl _ hel _ Tryz.underlying106 rfl cached_size ?_) | (refine aH rfl _ _ _ rfl (sZ c) rfl rfl rfl cached_size (nz _) ?_))
      intro w3 hb3 cx3
      have bx3 := bx.ext hb3
      have hbr3 := ae hbr hb3
      have hcs : ∀ W, Below w3.heap.size w3 W → W.cell? ⟨bf, of + F * 2 + 1, none⟩ = some (.slice P.a P.l.length P.c) := fun W hb => by
        obtain ⟨b', o', e, hc⟩ := ((hfl.below hb3).below hb) 1 _ rfl
        cases e
        exact hc
      have hfm3 := hfm.below hb3
      have hM3 := hM.below hb3
      clear hbr bx hb3 hel hfl hfm hM
      go_upto_region 7 with (fail)
      refine aG 45 [_,_,_,_,_,_,_,_,_,_,_,_,_,_,_,_,_,_,_,_,_,_,_,_,_,_,_,_,_,_,_,_,_,_,_,_,_,_,_,_,_,_,_,_,.v (.bool false)] (Gf wr.heap.size 0 rfl rfl (Gl cx3 rfl rfl rfl rfl rfl (Gb (.bool false) (by simp [go_sem, c1]) rfl rfl rfl rfl rfl (Gk rfl (Gf wr.heap.size 0 rfl rfl (Gl cx3 rfl rfl rfl rfl rfl (Gf w.heap.size 7 rfl rfl (Gf w.heap.size 7 rfl rfl (Gl bx3 rfl rfl rfl rfl rfl (Gn rfl rfl rfl rfl (Gb (.bool false) (by simp [go_sem, c2]) rfl rfl rfl rfl rfl (Gk rfl (Gk rfl (Gf wr.heap.size 1 rfl rfl (Gl cx3 rfl rfl rfl rfl rfl (Gb (.bool false) (by simp [go_sem, c3]) rfl rfl rfl rfl rfl (Gk rfl (Gk rfl (Gf wr.heap.size 1 rfl rfl (Gl cx3 rfl rfl rfl rfl rfl (Gf w.heap.size 7 rfl rfl (Gf w.heap.size 7 rfl rfl (Gl bx3 (V := .slice (some ⟨bf, of, none⟩) H.fi.length H.ci) (by simp [bR, hai]) rfl rfl rfl rfl (Gf wr.heap.size 0 rfl rfl (Gl cx3 (V := .int .i64 (F : Int)) (by simp [sZ, hcF]) rfl rfl rfl rfl (Gr (.pointer (some ⟨bf, of + F * 2, none⟩)) (fun ρ y W hb hKn => (aU rfl (aA rfl hKn) (aA rfl hKn) hFl Tryz.underlying35 file_size)) rfl rfl (Gf bf (of + F * 2 + 1) rfl rfl (Gc (.slice P.a P.l.length P.c) (fun W hb => by simp [hcs _ hb]) rfl rfl rfl rfl (Gn rfl rfl rfl rfl (Gb (.bool false) (by simp [go_sem, c4]) rfl rfl rfl rfl rfl (Gk rfl (Gk rfl (Gf wr.heap.size 2 rfl rfl (Gl cx3 rfl rfl rfl rfl rfl (Gb (.bool false) (by simp [go_sem, c5]) rfl rfl rfl rfl rfl (Gk rfl (Gk rfl (Gf wr.heap.size 2 rfl rfl (Gl cx3 rfl rfl rfl rfl rfl (Gf w.heap.size 0 rfl rfl (Gf w.heap.size 0 rfl rfl (Gl bx3 rfl rfl rfl rfl rfl (Gn rfl rfl rfl rfl (Gb (.bool false) (by simp [go_sem, c6]) rfl rfl rfl rfl rfl (Gk rfl (aB)))))))))))))))))))))))))))))))))))))))))))))) (fun _ => rfl) rfl ?_
      intro y W4 hbW4 _
      have bx4 := bx3.ext hbW4
      have cx4 := cx3.ext hbW4
      have hbr4 := ae hbr3 hbW4
      have hfm4 := hfm3.below hbW4
      have hM4 := hM3.below hbW4
      have hc := bx4.cell
      unfold bR at hc
      rw [ham] at hc
      have hcc := cx4.cell
      unfold sZ at hcc
      rw [hcK] at hcc
      have hKi : (K : Int) < (H.m.fs.length : Int) := by omega
      clear hcs hbr3 bx3 cx3 hfm3 hM3 hbW4 hai c1 c2 c3 c4 c5 c6
      go_wp2_with (first | (refine ay _ _ rfl bm (om + K * 13) rfl rfl _ hfm4 _ Tryz.underlying81 rfl frame_size ?_) | (refine aH rfl _ _ _ rfl (qi X) rfl rfl rfl frame_size (mH _) ?_))
      intro w5 hb5 fx5
      have bx5 := bx4.ext hb5
      have cx5 := cx4.ext hb5
      have hbr5 := ae hbr4 hb5
      have hM5 := hM4.below hb5
      clear hbr4 bx4 cx4 hfm4 hM4 hb5 hc hcc
      have hfx := fx5.cell
      unfold qi at hfx
      have hcc := cx5.cell
      unfold sZ at hcc
      obtain ⟨g7, g8, g9⟩ := hc78.out
      have d1 : ¬ X.r = 0 := by omega
      rw [g8, g9] at hfx
      clear g7 g8 g9
      go_upto_region 12 with (fail)
      rcases Nat.eq_zero_or_pos q with hq0 | hqp
      · subst hq0
        refine aG 27 [_,_,_,_,_,_,_,_,_,_,_,_,_,_,_,_,_,_,_,_,_,_,_,_,_,_,.v (.bool false)] (Gk rfl (Gb (.bool false) (by simp [go_sem, ]) rfl rfl rfl rfl rfl (Gk rfl (Gk rfl (Gk rfl (Gk rfl (Gk rfl (Gk rfl (Gk rfl (Gk rfl (Gk rfl (Gk rfl (Gk rfl (Gk rfl (Gk rfl (Gk rfl (Gk rfl (Gk rfl (Gk rfl (Gk rfl (Gk rfl (Gk rfl (Gk rfl (Gk rfl (Gk rfl (Gk rfl (Gk rfl (aB)))))))))))))))))))))))))))) (fun _ => rfl) rfl ?_
        intro y W6 hbW6 _
        have bx6 := bx5.ext hbW6
        have hbr6 := ae hbr5 hbW6
        clear hM5 hac ham
        go_wp2
        go_roundw
        case rel => exact ⟨1, by omega, by go_num, hbr6, bx6⟩
        case measure => simp [intOf]; omega
      · obtain ⟨q1, hq1⟩ : ∃ q1, q = q1 + 1 := ⟨q - 1, by omega⟩
        obtain ⟨d, hd, hlt, g1, g2, g3, g4⟩ := hprev.out q1 hq1
        have hq1l : q1 < H.ca.length := by omega
        obtain ⟨bc', oc', hac', hel'⟩ := gB kr (by decide) hM5.ca.rd q1 hq1l
        rw [hac] at hac'
        cases hac'
        have hdq : H.ca[q1] = d := by
          have := List.getElem?_eq_getElem hq1l
          rw [hd] at this
          exact (Option.some.inj this).symm
        rw [hdq] at hel'
        have hd0 : ∀ W, Below w5.heap.size w5 W → W.cell? ⟨bc, oc + q1 * 3, none⟩ = some (.int .i64 d.f) := fun W hb => by
          obtain ⟨b', o', e, hc⟩ := (hel'.below hb) 0 _ rfl
          cases e
          exact hc
        have hd1 : ∀ W, Below w5.heap.size w5 W → W.cell? ⟨bc, oc + q1 * 3 + 1, none⟩ = some (.int .i64 d.i) := fun W hb => by
          obtain ⟨b', o', e, hc⟩ := (hel'.below hb) 1 _ rfl
          cases e
          exact hc
        obtain ⟨e1, e2, e3, e4⟩ := hlt5.out
        have m0 : IntKind.i64.wrap ((q : Int) - 1) = (q1 : Int) := (IntWalk.i64_in _ (by omega)).trans (by omega)
        have m1 : IntKind.i64.wrap (100 * d.f) = 100 * d.f := (IntWalk.i64_in _ (by omega)).trans (by omega)
        have m2 : IntKind.i64.wrap (100 * d.f + d.i) = 100 * d.f + d.i := (IntWalk.i64_in _ (by omega)).trans (by omega)
        have m3 : IntKind.i64.wrap (100 * c.f) = 100 * c.f := (IntWalk.i64_in _ (by omega)).trans (by omega)
        have m4 : IntKind.i64.wrap (100 * c.f + c.i) = 100 * c.f + c.i := (IntWalk.i64_in _ (by omega)).trans (by omega)
        have m5 : ¬ 100 * c.f + c.i ≤ 100 * d.f + d.i := by unfold xP at hlt; omega
        refine aG 27 [_,_,_,_,_,_,_,_,_,_,_,_,_,_,_,_,_,_,_,_,_,_,_,_,_,_,.v (.bool false)] (Gk rfl (Gb (.bool true) (by simp [go_sem, hqp]) rfl rfl rfl rfl rfl (Gk rfl (Gf w.heap.size 9 rfl rfl (Gl bx5 (V := .slice (some ⟨bc, oc, none⟩) H.ca.length H.cc) (by simp [bR, hac]) rfl rfl rfl rfl (Gk rfl (Gb (.int .i64 (q1 : Int)) (by simp [go_sem, m0]) rfl rfl rfl rfl rfl (Gr (.pointer (some ⟨bc, oc + q1 * 3, none⟩)) (fun ρ y W hb hKn => (aU rfl (aA rfl hKn) (aA rfl hKn) hq1l Tryz.underlying38 cached_size)) rfl rfl (Gf bc (oc + q1 * 3) rfl rfl (Gc (.int .i64 d.f) (fun W hb => by simp [hd0 _ hb]) rfl rfl rfl rfl (Gb (.int .i64 (100 * d.f)) (by simp [go_sem, m1]) rfl rfl rfl rfl rfl (Gf w.heap.size 9 rfl rfl (Gl bx5 (V := .slice (some ⟨bc, oc, none⟩) H.ca.length H.cc) (by simp [bR, hac]) rfl rfl rfl rfl (Gk rfl (Gb (.int .i64 (q1 : Int)) (by simp [go_sem, m0]) rfl rfl rfl rfl rfl (Gr (.pointer (some ⟨bc, oc + q1 * 3, none⟩)) (fun ρ y W hb hKn => (aU rfl (aA rfl hKn) (aA rfl hKn) hq1l Tryz.underlying38 cached_size)) rfl rfl (Gf bc (oc + q1 * 3 + 1) rfl rfl (Gc (.int .i64 d.i) (fun W hb => by simp [hd1 _ hb]) rfl rfl rfl rfl (Gb (.int .i64 (100 * d.f + d.i)) (by simp [go_sem, m2]) rfl rfl rfl rfl rfl (Gf wr.heap.size 0 rfl rfl (Gl cx5 rfl rfl rfl rfl rfl (Gb (.int .i64 (100 * c.f)) (by simp [go_sem, m3]) rfl rfl rfl rfl rfl (Gf wr.heap.size 1 rfl rfl (Gl cx5 rfl rfl rfl rfl rfl (Gb (.int .i64 (100 * c.f + c.i)) (by simp [go_sem, m4]) rfl rfl rfl rfl rfl (Gb (.bool false) (by simp [go_sem, m5]) rfl rfl rfl rfl rfl (Gk rfl (aB)))))))))))))))))))))))))))) (fun _ => rfl) rfl ?_
        intro y W6 hbW6 _
        have bx6 := bx5.ext hbW6
        have hbr6 := ae hbr5 hbW6
        clear hM5 hac ham hd0 hd1 m0 m1 m2 m3 m4 m5 hel' hd hlt g1 g2 g3 g4 e1 e2 e3 e4 hdq hq1
        go_wp2
        go_roundw
        case rel => exact ⟨q + 1, by omega, by go_num, hbr6, bx6⟩
        case measure => simp [intOf]; omega
    · have hqi : ¬ (q : Int) < (H.ca.length : Int) := by omega
      have hc := bx.cell
      unfold bR at hc
      clear hM
      go_wp2
      go_loopw [134] (fun s134 wr => ∃ p : Nat, p ≤ H.sp.length ∧ s134 = .int .i64 p ∧ Below w.heap.size w wr ∧ aF wr w.heap.size (bR H) 41) (fun s134 _ => H.sp.length - (intOf s134).toNat)
      case atStart => exact ⟨0, Nat.zero_le _, rfl, hbr, bx⟩
      case round =>
        clear hbr bx hc hqi
        obtain ⟨p, hp, rfl, hbr, bx⟩ := hrel
        have hM := hh.out.below hbr
        by_cases hpl : p < H.sp.length
        · obtain ⟨bd, od, P, hda, hP, hrd⟩ := kL hM.sp.rd p hpl
          have hpi : (p : Int) < (H.sp.length : Int) := by omega
          have hgood := lh hM hP
          have hsP : P.sp ∈ H.ma.sp := by show P.sp ∈ H.sp.map PS.sp; exact List.mem_map.2 ⟨P, List.mem_of_getElem? hP, rfl⟩
          have hal : (aZ P.ar).1 = 0 := hR'.out.pt.ar P.sp hsP
          have htb : Hid (bI P.tb = 0) := Lib.hid (hR'.out.pt.tb P.sp hsP)
          have hsp := Lib.hid (jr hP)
          obtain ⟨hal16, halE⟩ := qc hal
          have hon : Hid (∀ i : Nat, bF P.ar i = iV H.ma p i) := Lib.hid (fun i => by
            rw [kH (iX (fe.1 hal).2)]
            unfold iV
            rw [hsp.out]; rfl)
          rw [hda]
          go_wp2_with (first | (refine ay _ _ rfl bd (od + p * 10) rfl rfl _ hrd _ Tryz.underlying55 rfl space_size ?_) | (refine aH rfl _ _ _ rfl (nA P) rfl rfl rfl space_size (by rw [← Array.all_toList, List.all_eq_true]; exact hgood.one) ?_))
          intro w6 hb6 px6
          have hbr6 := ae hbr hb6
          have bx6 := bx.ext hb6
          have hg6 := hgood.below hb6
          have hcp := px6.cell
          unfold nA at hcp
          clear hbr bx hb6 hrd hM hgood hal
          go_wp2_with fail
          refine (kG P.ar P.aa P.ac _ hg6.ars.rd (by omega) halE).mono ?_
          rintro r w7 ⟨rfl, hb7⟩
          have hbr7 := ae hbr6 hb7
          have bx7 := bx6.ext hb7
          have px7 := px6.ext hb7
          have hg7 := hg6.below hb7
          clear hbr6 bx6 px6 hg6 hb7 hcp
          go_wp2_with (refine aH rfl _ _ _ rfl (fC (bF P.ar)) rfl rfl (by rw [fP]; rfl) (by rw [fP]; exact ones_size) (rW _) ?_)
          intro w8 hb8 ox8
          have hbr8 := ae hbr7 hb8
          have bx8 := bx7.ext hb8
          have px8 := px7.ext hb8
          have hg8 := hg7.below hb8
          clear hbr7 bx7 px7 hg7 hb8
          have hrt : cZ w8 (some ⟨wr.heap.size, 2, none⟩) (iP P.ts).toList := bQ px8 2 8
          go_wp2_with (refine ay _ _ rfl wr.heap.size 2 rfl rfl _ hrt _ Tryz.underlying53 tab_agg tab_size ?_)
          refine (ui P.tb (iP P.ts) _ hg8.tb htb.out).mono ?_
          rintro r w9 ⟨rfl, hb9⟩
          rw [zP (qg P.tb)]
          have hE : Hid (∀ n : Nat, n < 64 → (bG P.tb).getD n zEn = ent H.ma p n) := Lib.hid (fun n hn => by rw [JO hn]; unfold ent; rw [hsp.out]; rfl)
          have hbr9 := ae hbr8 hb9
          have bx9 := bx8.ext hb9
          have ox9 := ox8.ext hb9
          generalize bG P.tb = l at *
          obtain ⟨go, hgo⟩ : ∃ go, w7.heap.size = go := ⟨_, rfl⟩
          rw [hgo] at ox9 ⊢
          clear hbr8 bx8 px8 hg8 hb9 hrt ox8 hgo
          go_wp2
          go_loopw [144] (fun s144 wr => ∃ i : Nat, i ≤ 64 ∧ s144 = .int .i64 i ∧ Below w.heap.size w wr ∧ aF wr w.heap.size (bR H) 41 ∧ aF wr go (fC (bF P.ar)) 110) (fun s144 _ => 64 - (intOf s144).toNat)
          case atStart => exact ⟨0, by omega, rfl, hbr9, bx9, ox9⟩
          case round =>
            clear hbr9 bx9 ox9
            obtain ⟨i, hi, rfl, hbr, bx, ox⟩ := hrel
            by_cases hil : i < 64
            · have hii : (i : Int) < 64 := by omega
              have hix0 := hE.out i hil
              generalize heE : ent H.ma p i = E at hix0
              have hix := vo l i hil E hix0
              have heE' := Lib.hid heE
              clear heE hix0
              go_wp2_with (refine aH rfl _ _ _ rfl (fI E) rfl rfl rfl entry_size (by simp [fI, Value.oneCell']) ?_)
              intro wa hba ea
              have hbra := ae hbr hba
              have bxa := bx.ext hba
              have oxa := ox.ext hba
              clear hix hbr bx ox hba
              have hx := ea.cell
              unfold fI at hx
              by_cases hk0 : E.k = 0
              · rw [hk0] at hx
                clear hk0
                go_wp2
                go_roundw
                case rel => exact ⟨i + 1, by omega, by go_num, hbra, bxa, oxa⟩
                case measure => simp [intOf]; omega
              · obtain ⟨g, hg, hf⟩ := hR'.out.en p i (by rw [heE'.out]; exact hk0)
                rw [heE'.out] at hf
                have hent : dC E = 0 := by rw [← heE'.out]; unfold ent; rw [hsp.out]; exact kI htb.out i
                have hog : bF P.ar i = some g := (hon.out i).trans hg
                have hog' := Lib.hid hog
                have hfe := Lib.hid (And.intro hf (And.intro hk0 hent))
                clear hf hg hent hog
                go_upto_region 23 with (fail)
                refine aG 7 [_,_,_,_,_,.v (.int .i64 0),.v (.int .i64 0)] (Gr (.agg (bR H)) (fun ρ y W hb hKn => (aX rfl (aA rfl hKn) (bxa.ext hb) Tryz.underlying41 rfl machine_size)) rfl rfl (Gk rfl (Gr (.pointer (some ⟨go, 0 + i * 6, none⟩)) (fun ρ y W hb hKn => (Ju rfl (aA rfl hKn) (aA rfl hKn) hil Tryz.underlying110 one_size)) rfl rfl (Gr (.agg (nW (some g))) (fun ρ y W hb hKn => (bV rfl (aA rfl hKn) (by rw [Nat.zero_add]; exact Na (oxa.ext hb) hil hog'.out) Tryz.underlying109 rfl one_size)) rfl rfl (Gr (.agg (fI E)) (fun ρ y W hb hKn => (aX rfl (aA rfl hKn) (ea.ext hb) Tryz.underlying89 rfl entry_size)) rfl rfl (ag ?_ (Gk rfl (aB)))))))) (fun _ => rfl) rfl ?_
                · intro ρ y W hw hn hb hd; have E151 := hw 151 0 rfl; have h0 : y 0 = _ := hd 0 rfl; have E154 := hw 154 3 rfl; have h3 : y 3 = _ := hd 3 rfl; have E155 := hw 155 4 rfl; have h4 : y 4 = _ := hd 4 rfl
                  have EF : ∀ f, ρ (.func f) = .func (.func f) #[] #[] := fun f => hn (.func f) trivial
                  refine aJ _ _ (ah rfl) (aK rfl (EF _) Tryz.func51 (by kernel_rfl) (by kernel_rfl) (by simp only [List.map_toArray, List.map_cons, List.map_nil, E151, h0, E154, h3, E155, h4, EF]; rfl)) ?_
                  refine (FX H g E W (hh.out.below (ae hbra hb)) hR'.out hfe.out.1 hfe.out.2.1 hfe.out.2.2).mono ?_
                  rintro r wz ⟨rfl, hbz⟩
                  exact ⟨_, rfl, hbz, rfl⟩
                intro y wb hbwb _
                have hbrb := ae hbra hbwb
                have bxb := bxa.ext hbwb
                have oxb := oxa.ext hbwb
                clear hbra bxa oxa ea hx hbwb
                go_wp2
                go_roundw
                case rel => exact ⟨i + 1, by omega, by go_num, hbrb, bxb, oxb⟩
                case measure => simp [intOf]; omega
            · have hii : ¬ (i : Int) < 64 := by omega
              clear ox
              go_wp2
              go_roundw
              case rel => exact ⟨p + 1, by omega, by go_num, hbr, bx⟩
              case measure => simp [intOf]; omega
        · have hpi : ¬ (p : Int) < (H.sp.length : Int) := by omega
          have hc := bx.cell
          unfold bR at hc
          clear hM
          go_wp2
          go_loopw [166] (fun s166 wr => ∃ k : Nat, k ≤ H.m.fs.length ∧ s166 = .int .i64 k ∧ Below w.heap.size w wr ∧ aF wr w.heap.size (bR H) 41) (fun s166 _ => H.m.fs.length - (intOf s166).toNat)
          case atStart => exact ⟨0, Nat.zero_le _, rfl, hbr, bx⟩
          case round =>
            clear hbr bx hc hpi
            obtain ⟨k, hk, rfl, hbr, bx⟩ := hrel
            have hM := hh.out.below hbr
            by_cases hkl : k < H.m.fs.length
            · obtain ⟨bm, om, ham, hfm⟩ := gB eT (by decide) hM.fr.rd k hkl
              have hki : (k : Int) < (H.m.fs.length : Int) := by omega
              have hKe : bB H.ma k = H.m.fs[k] := by unfold bB; show H.m.fs.getD k fr0 = _; rw [List.getD_eq_getElem?_getD, List.getElem?_eq_getElem hkl]; rfl
              have hcf := hR'.out.cf k hkl
              have hfc := hR'.out.fc k hkl
              rw [hKe] at hcf hfc
              have hho : bX H.ma 1 k ≤ 256 := by
                have h9 := wu H.ma 1 k
                have e9 : H.ma.sp.length = H.sp.length := qw H
                omega
              have hcaN : sW H.ma k ≤ H.ca.length := List.countP_le_length
              generalize H.m.fs[k] = X at *
              have hfc' := Lib.hid hfc
              have hcf' := Lib.hid hcf
              clear hKe hcf hfc
              rw [ham]
              go_wp2_with (first | (refine ay _ _ rfl bm (om + k * 13) rfl rfl _ hfm _ Tryz.underlying81 rfl frame_size ?_) | (refine aH rfl _ _ _ rfl (qi X) rfl rfl rfl frame_size (mH _) ?_))
              intro w6 hb6 fx6
              have hbr6 := ae hbr hb6
              have bx6 := bx.ext hb6
              have hM6 := hM.below hb6
              clear hbr bx hb6 hfm hM ham
              go_wp2_with (refine ay _ _ rfl w.heap.size 0 rfl rfl _ bx6.rd _ Tryz.underlying41 rfl machine_size ?_)
              refine (rP H 1 k _ hM6 hR'.out).mono ?_
              rintro r w7 ⟨rfl, hb7⟩
              have hbr7 := ae hbr6 hb7
              have bx7 := bx6.ext hb7
              have fx7 := fx6.ext hb7
              clear hbr6 bx6 hM6 fx6 hb7
              obtain ⟨gf, hgf⟩ : ∃ gf, wr.heap.size = gf := ⟨_, rfl⟩
              rw [hgf] at fx7 ⊢
              generalize hhN : bX H.ma 1 k = N at *
              have hhN' := Lib.hid hhN
              clear hgf hhN
              have hc := bx7.cell
              unfold bR at hc
              go_wp2
              go_loopw [177, 16] (fun s177 s16 wr => ∃ i m : Nat, i ≤ H.ca.length ∧ s177 = .int .i64 i ∧ s16 = .int .i64 m ∧ m ≤ i ∧ Below w.heap.size w wr ∧ aF wr w.heap.size (bR H) 41 ∧ aF wr gf (qi X) 81 ∧ Hid (m = (H.ca.take i).countP fun c => decide (c.k = (k : Int)))) (fun s177 _ _ => H.ca.length - (intOf s177).toNat)
              case atStart => exact ⟨0, 0, Nat.zero_le _, rfl, rfl, Nat.le_refl _, hbr7, bx7, fx7, Lib.hid (by simp)⟩
              case round =>
                clear hbr7 bx7 fx7 hc
                obtain ⟨i, m, hi, rfl, rfl, hm, hbr, bx, fx, hcm⟩ := hrel
                have hM := hh.out.below hbr
                by_cases hil : i < H.ca.length
                · obtain ⟨bc, oc, hac, hel⟩ := gB kr (by decide) hM.ca.rd i hil
                  have hii : (i : Int) < (H.ca.length : Int) := by omega
                  have hct : Hid ((H.ca.take (i + 1)).countP (fun c => decide (c.k = (k : Int))) = (H.ca.take i).countP (fun c => decide (c.k = (k : Int))) + if decide ((H.ca[i]).k = (k : Int)) = true then 1 else 0) := Lib.hid (uS _ _ _ hil)
                  generalize H.ca[i] = c at *
                  rw [hac]
                  go_wp2_with (first | (refine ay _ _ rfl bc (oc + i * 3) rfl rfl _ hel _ Tryz.underlying106 rfl cached_size ?_) | (refine aH rfl _ _ _ rfl (sZ c) rfl rfl rfl cached_size (nz _) ?_))
                  intro w8 hb8 cx8
                  have hbr8 := ae hbr hb8
                  have bx8 := bx.ext hb8
                  have fx8 := fx.ext hb8
                  have hcc := cx8.cell
                  unfold sZ at hcc
                  clear hbr bx fx hb8 hel hM cx8 hac
                  by_cases hck : c.k = (k : Int)
                  · have hcm' : Hid (m + 1 = (H.ca.take (i + 1)).countP fun c => decide (c.k = (k : Int))) := Lib.hid (by rw [hct.out, ← hcm.out]; simp [hck])
                    clear hcm hct
                    go_wp2
                    go_roundw
                    case rel => exact ⟨i + 1, m + 1, by omega, by go_num, by go_num, by omega, hbr8, bx8, fx8, hcm'⟩
                    case measure => simp [intOf]; omega
                  · have hcm' : Hid (m = (H.ca.take (i + 1)).countP fun c => decide (c.k = (k : Int))) := Lib.hid (by rw [hct.out, ← hcm.out]; simp [hck])
                    clear hcm hct
                    go_wp2
                    go_roundw
                    case rel => exact ⟨i + 1, m, by omega, by go_num, rfl, by omega, hbr8, bx8, fx8, hcm'⟩
                    case measure => simp [intOf]; omega
                · have hii : ¬ (i : Int) < (H.ca.length : Int) := by omega
                  have hm' : m = sW H.ma k := by
                    rw [hcm.out, List.take_of_length_le (by omega)]; rfl
                  have hXr : X.r = (m : Int) + (N : Int) := by rw [hcf'.out, hm']
                  have hXf : 0 ≤ X.f → ¬ m = 0 := fun h0 e => by
                    obtain ⟨c, hc, hck⟩ := hfc'.out h0
                    have h9 : 0 < sW H.ma k := List.countP_pos_iff.2 ⟨c, hc, by simp [hck]⟩
                    omega
                  have hsum : (N : Int) + (m : Int) = X.r := by omega
                  have hfx := fx.cell
                  unfold qi at hfx
                  have hwr : IntKind.i64.wrap ((N : Int) + (m : Int)) = X.r := (IntWalk.i64_in _ (by omega)).trans hsum
                  clear hcm hM hm' hXr hsum hcaN
                  by_cases h0 : 0 ≤ X.f
                  · have hm0 : ¬ (m : Int) = 0 := by have := hXf h0; omega
                    clear hXf
                    go_wp2
                    go_roundw
                    case rel => exact ⟨k + 1, by omega, by go_num, hbr, bx⟩
                    case measure => simp [intOf]; omega
                  · clear hXf
                    go_wp2
                    go_roundw
                    case rel => exact ⟨k + 1, by omega, by go_num, hbr, bx⟩
                    case measure => simp [intOf]; omega
            · have hki : ¬ (k : Int) < (H.m.fs.length : Int) := by omega
              have hc := bx.cell
              unfold bR at hc
              clear hM
              go_wp2
              go_loopw [207] (fun s207 wr => ∃ k : Nat, k ≤ H.sl.length ∧ s207 = .int .i64 k ∧ Below w.heap.size w wr ∧ aF wr w.heap.size (bR H) 41) (fun s207 _ => H.sl.length - (intOf s207).toNat)
              case atStart => exact ⟨0, Nat.zero_le _, rfl, hbr, bx⟩
              case round =>
                clear hbr bx hc hki
                obtain ⟨k, hk, rfl, hbr, bx⟩ := hrel
                have hM := hh.out.below hbr
                by_cases hkl : k < H.sl.length
                · have hki : (k : Int) < (H.sl.length : Int) := by omega
                  obtain ⟨bl, ol, hal, hcj⟩ := hM.sl.rd k (dL H.sl[k]) (by rw [List.getElem?_map, List.getElem?_eq_getElem hkl]; rfl)
                  unfold dL at hcj
                  have hcs := hR'.out.cs k hkl
                  have hse : fK H.ma k = H.sl[k] := by unfold fK; show H.sl.getD k 0 = _; rw [List.getD_eq_getElem?_getD, List.getElem?_eq_getElem hkl]; rfl
                  rw [hse] at hcs
                  rw [hcs] at hcj
                  rw [hal]
                  clear hcs hse
                  go_wp2_with (refine ay _ _ rfl w.heap.size 0 rfl rfl _ bx.rd _ Tryz.underlying41 rfl machine_size ?_)
                  refine (rP H 2 k _ hM hR'.out).mono ?_
                  rintro r w7 ⟨rfl, hb7⟩
                  have hbr7 := ae hbr hb7
                  have bx7 := bx.ext hb7
                  clear hbr bx hM hb7 hcj hal
                  go_wp2
                  go_roundw
                  case rel => exact ⟨k + 1, by omega, by go_num, hbr7, bx7⟩
                  case measure => simp [intOf]; omega
                · have hki : ¬ (k : Int) < (H.sl.length : Int) := by omega
                  clear hM
                  go_wp2
                  go_ret
                  exact ⟨rfl, hbr⟩
theorem MF {w:World} {b:Nat} {vs:List Value} {cs:Array Value} {T:TypeId} (m:World→Prop) (hb:aF (w.setCells b 0 vs) b cs T) (h:∀W,w.grownBy W (some b)→aF W b cs T→m W):m (w.setCells b 0 vs).drew:=by
 have h1:=aL w b 0 vs
 generalize w.setCells b 0 vs=W0 at *
 exact h _ ⟨h1.os,h1.tape,h1.output,h1.size,h1.block⟩ hb
theorem MK {w:World} {b:Nat} {p:Page} {cur:Array Value} {T:TypeId} (m:World→Prop) (hb:aF w b cur T) (hs:(dW p).size=cur.size) (h:∀W,w.grownBy W (some b)→aF W b (dW p) T→m W):m (w.setCells b 0 (dW p).toList).drew:=
 MF m (by
  have h2:=hb.setCells (dW p).toList 0
  rw[iq cur (dW p) hs] at h2
  exact h2) h
theorem GR (H:MH) (p n:Nat) (w:World) (h:rC w H) (hR:Rt H.ma) (hp:p<H.sp.length) (hn:n<64) :
  Calls Tryz.prog 55 #[.agg (bR H),.int .i64 p,.int .i64 n] w fun r w'=>r = .returned (.tuple #[.agg (dW (fJ H.ma p n).1),.bool (fJ H.ma p n).2.1,.int .i64 (fJ H.ma p n).2.2])∧Below w.heap.size w w':=by
 have hh:=Lib.hid h
 have hR':=Lib.hid hR
 clear hR
 go_enter Tryz.func55,Tryz.ntmps55
 go_upto_region 1 with (fail)
 refine mg (fun W=>Code.wp _ _ _ _ W) fun w1 hb1 bx1 px1 hs1 => ?_
 have bx1:aF w1 w.heap.size (bR H) 41:=bx1
 have h1:=h.below hb1
 clear h hs1
 have hpi:(p:Int)<(H.sp.length:Int):=by omega
 obtain⟨bs,os,P,hap,hP,hrd⟩:=kL h1.sp.rd p hp
 have hgood:=lh h1 hP
 have hsP:P.sp∈H.ma.sp:=by show P.sp∈H.sp.map PS.sp;exact List.mem_map.2 ⟨P,List.mem_of_getElem? hP,rfl⟩
 have hal:(aZ P.ar).1=0:=hR'.out.pt.ar P.sp hsP
 have htb:Hid (bI P.tb=0):=Lib.hid (hR'.out.pt.tb P.sp hsP)
 have hsp:=Lib.hid (jr hP)
 have hs1:w1.cell? ⟨bs,os+p*10+1,none⟩=some (.slice P.aa P.ar.length P.ac):=by
  obtain⟨b',o',e,hc⟩:=hrd 1 _ rfl
  cases e
  exact hc
 have hc:=bx1.cell
 unfold bR at hc
 rw[hap] at hc
 obtain⟨hal16,halE⟩:=qc hal
 go_wp2_with fail
 refine (kG P.ar P.aa P.ac _ hgood.ars.rd (by omega) halE).mono ?_
 rintro r w2 ⟨rfl,hb2⟩
 have hbr2:=ae hb1 hb2
 have bx2:=bx1.ext hb2
 have px2:=px1.ext hb2
 have hrd2:=hrd.below hb2
 have hg2:=hgood.below hb2
 clear hc hs1 hb1 bx1 px1 hb2 hrd hgood h1 hal16
 have hon:bF P.ar n=iV H.ma p n:=by
  rw[kH (iX (fe.1 hal).2)]
  unfold iV
  rw[hsp.out];rfl
 generalize hog:iV H.ma p n=o at hon
 have hix:=sJ (bF P.ar) n hn o hon
 have hog':=Lib.hid hog
 clear hog hon hal halE
 go_wp2_with (refine aH rfl _ _ _ rfl (nW o) rfl rfl rfl one_size (Ap o) ?_)
 intro w3 hb3 ox3
 have hbr3:=ae hbr2 hb3
 have bx3:=bx2.ext hb3
 have px3:=px2.ext hb3
 have hrd3:=hrd2.below hb3
 have hg3:=hg2.below hb3
 clear hix hbr2 bx2 px2 hb3 hrd2 hg2
 cases o with
 | none=>
  have hsee:Hid (fJ H.ma p n=(zPg,false,5)):=Lib.hid (by unfold fJ;rw[hog'.out])
  have ho:=ox3.cell
  have ho0:(nW none)[0]?=some (.bool false):=rfl
  have hbr9:=hbr3
  have px9:=px3
  go_wp2_with (refine az rfl _ _ _ rfl (w.heap.size+1) (dW zPg) rfl rfl _ _ px9 rfl psize (eD _) ?_)
  intro we pxe hge
  have hbre:=hbr9.grown hge hbr9.size (fun k hk=>by cases hk;omega)
  go_wp2
  refine bodyPost_ret (v:=.tuple #[.agg (dW zPg),.bool false,.int .i64 5]) (dP Tryz.results55 _ _ (w.heap.size+1) _ _ _ _ _ rfl rfl rfl pxe Tryz.underlying79 rfl psize) rfl ?_
  rw[hsee.out]
  exact⟨rfl,hbre⟩
 | some g=>
  have ox3:aF w3 w2.heap.size #[.bool true,.bool g.rd,.bool g.wr,.bool g.sh,.int .i64 g.fi,.int .i64 g.pg] 109:=ox3
  have ho:=ox3.cell
  have hrt:=mW hrd3 2 8
  have hc:=bx3.cell
  unfold bR at hc
  rw[hap] at hc
  go_wp2_with (refine ay _ _ rfl bs (os+p*10+2) rfl rfl _ hrt _ Tryz.underlying53 tab_agg tab_size ?_)
  refine (ui P.tb (iP P.ts) _ hg3.tb htb.out).mono ?_
  rintro r w4 ⟨rfl,hb4⟩
  rw[zP (qg P.tb)]
  have hE:(bG P.tb).getD n zEn=ent H.ma p n:=by rw[JO hn];unfold ent;rw[hsp.out];rfl
  generalize heE:ent H.ma p n=E at hE
  have hix:=vo (bG P.tb) n hn E hE
  have heE':=Lib.hid heE
  clear heE hE hc ho hrt hrd3 hg3
  have hbr4:=ae hbr3 hb4
  have bx4:=bx3.ext hb4
  have px4:=px3.ext hb4
  have ox4:=ox3.ext hb4
  clear hbr3 bx3 px3 hb4 ox3 hap
  go_wp2_with (refine aH rfl _ _ _ rfl (fI E) rfl rfl rfl entry_size (by simp[fI,Value.oneCell']) ?_)
  intro w5 hb5 ex5
  have hbr5:=ae hbr4 hb5
  have bx5:=bx4.ext hb5
  have px5:=px4.ext hb5
  have ox5:=ox4.ext hb5
  clear hix hbr4 bx4 px4 ox4 hb5
  have ho:=ox5.cell
  have hx:=ex5.cell
  unfold fI at hx
  have hfit:Hid (E.k≠0→JY H.ma g E):=Lib.hid (fun hk=>by
   obtain⟨g',hg',hf⟩:=hR'.out.en p n (by rw[heE'.out];exact hk)
   rw[hog'.out] at hg'
   cases hg'
   rw[heE'.out] at hf
   exact hf)
  have hM5:=hh.out.below hbr5
  have hent:Hid (dC E=0):=Lib.hid (by rw[←heE'.out];unfold ent;rw[hsp.out];exact kI htb.out n)
  by_cases k1:E.k=1
  ·have hfE:=hfit.out (by omega)
   have q1:E.n<(H.m.fs.length:Int):=hfE.lt k1
   have q0:0≤E.n:=by have:=(bH _).1 hent.out;omega
   obtain⟨F,hF⟩:∃F:Nat,E.n=F:=⟨E.n.toNat,by omega⟩
   have hFl:F<H.m.fs.length:=by omega
   obtain⟨bf,of,haf,hel⟩:=gB eT (by decide) hM5.fr.rd F hFl
   have hFe:jQ H.ma E.n=H.m.fs[F]:=by rw[hF,vP];unfold bB;show H.m.fs.getD F fr0=_;rw[List.getD_eq_getElem?_getD,List.getElem?_eq_getElem hFl];rfl
   have hsee0:Hid (fJ H.ma p n=((H.m.fs[F]).p,decide ((H.m.fs[F]).f<0),0)):=Lib.hid (by
    unfold fJ
    rw[hog'.out]
    dsimp only
    rw[heE'.out,if_pos k1,hFe])
   generalize H.m.fs[F]=X at *
   have hc:=bx5.cell
   unfold bR at hc
   rw[haf] at hc
   rw[k1,hF] at hx
   have hFi:(F:Int)<(H.m.fs.length:Int):=by omega
   clear hFe hfE q1 q0 ho ox5 k1 hF
   go_wp2_with (first | (refine ay _ _ rfl bf (of+F*13) rfl rfl _ hel _ Tryz.underlying81 rfl frame_size ?_) | (refine aH rfl _ _ _ rfl (qi X) rfl rfl rfl frame_size (mH _) ?_))
   intro w6 hb6 fx6
   have hbr6:=ae hbr5 hb6
   have px5l:=Lib.hid px5.lt
   have px6:=px5.ext hb6
   clear hbr5 px5 bx5 hb6 hel hc hM5 hx ex5
   go_upto_region 9 with (fail)
   have hfx:=fx6.cell
   unfold qi at hfx
   have hpx:=px6.cell
   have hne:w.heap.size+1≠w5.heap.size:=by have:=px5l.out;omega
   have hne' : w5.heap.size≠w.heap.size+1:=fun e=>hne e.symm
   have hfr:=px6.free
   go_region
   all_goals (refine MK (p:=X.p) (b:=w.heap.size+1) (fun W=>Exit.then _ _ _ _ W) px6 rfl fun we hge pxe => ?_)
   all_goals clear hfx hpx hne hne' hfr fx6 px6
   all_goals (have hbre:=hbr6.grown hge hbr6.size (fun k hk=>by cases hk;omega))
   all_goals go_wp2
   all_goals (refine bodyPost_ret (v:=.tuple #[.agg (dW X.p),.bool (decide (X.f<0)),.int .i64 0]) (dP Tryz.results55 _ _ (w.heap.size+1) _ _ _ _ _ rfl rfl rfl pxe Tryz.underlying79 rfl psize) rfl ?_)
   all_goals rw[hsee0.out]
   all_goals exact⟨rfl,hbre⟩
  by_cases k2:E.k=2
  ·have hfE:=hfit.out (by omega)
   obtain⟨q1,q2⟩:=hfE.sw k2
   have q0:0≤E.n:=by have:=(bH _).1 hent.out;omega
   have hwo:fu H.sw E.n=0:=BF.2 ⟨hR'.out.pt.sw,q0,by have:=hR'.out.pt.swl;have e:H.ma.sw.blocks.length=H.sw.blocks.length:=rfl;have e2:H.ma.sl.length=H.sl.length:=rfl;omega⟩
   have hsee:Hid (fJ H.ma p n=(iJ H.sw E.n,true,0)):=Lib.hid (by
    unfold fJ
    rw[hog'.out]
    dsimp only
    rw[heE'.out,if_neg k1,if_pos k2,show fu H.ma.sw E.n=0 from hwo];rfl)
   rw[k2] at hx
   have r5:cZ w5 (some ⟨w.heap.size,3,none⟩) [.slice H.wb H.sw.blocks.length H.cwb,.slice H.wq H.sw.queue.length H.cwq]:=bQ bx5 3 2
   clear hfE q1 q2 q0 ho ox5 k1 k2
   go_wp2_with (refine ay _ _ rfl w.heap.size 3 rfl rfl _ r5 _ Tryz.underlying34 rfl disk_size ?_)
   refine (yI H.sw E.n H.wb H.cwb H.wq H.cwq _ hM5.sw).mono ?_
   rintro r w6 ⟨rfl,hb6⟩
   rw[hwo]
   have hbr6:=ae hbr5 hb6
   have px6:=px5.ext hb6
   clear hbr5 px5 bx5 hb6 r5 hM5 hx ex5 hwo
   go_wp2_with (refine aH rfl _ _ _ rfl (dW (iJ H.sw E.n)) rfl rfl rfl psize (eD _) ?_)
   intro w7 hb7 gx7
   have hbr9:=ae hbr6 hb7
   have px9:=px6.ext hb7
   clear hbr6 px6 hb7
   go_wp2_with (first | (refine ay _ _ rfl w6.heap.size 0 rfl rfl _ gx7.rd _ Tryz.underlying79 rfl psize ?_) | (refine az rfl _ _ _ rfl (w.heap.size+1) (dW (iJ H.sw E.n)) rfl rfl _ _ px9 rfl psize (eD _) ?_))
   intro we pxe hge
   have hbre:=hbr9.grown hge hbr9.size (fun k hk=>by cases hk;omega)
   go_wp2
   refine bodyPost_ret (v:=.tuple #[.agg (dW (iJ H.sw E.n)),.bool true,.int .i64 0]) (dP Tryz.results55 _ _ (w.heap.size+1) _ _ _ _ _ rfl rfl rfl pxe Tryz.underlying79 rfl psize) rfl ?_
   rw[hsee.out]
   exact⟨rfl,hbre⟩
  have k0:E.k=0:=by have:=(bH _).1 hent.out;omega
  have hsee0:Hid (fJ H.ma p n=if g.fi<0 then (zPg,false,0) else if (H.ma.st.fs.length:Int)≤g.fi∨tC H.ma.st g.fi g.pg=true then (zPg,false,9) else (aY H.ma g.fi g.pg,false,0)):=Lib.hid (by
   unfold fJ
   rw[hog'.out]
   dsimp only
   rw[heE'.out,if_neg k1,if_neg k2])
  rw[k0] at hx
  clear hfit hent k1 k2 k0
  by_cases f0:g.fi<0
  ·have hsee:Hid (fJ H.ma p n=(zPg,false,0)):=Lib.hid (by rw[hsee0.out,if_pos f0])
   have hbr9:=hbr5
   have px9:=px5
   clear hsee0
   go_wp2_with (refine az rfl _ _ _ rfl (w.heap.size+1) (dW zPg) rfl rfl _ _ px9 rfl psize (eD _) ?_)
   intro we pxe hge
   have hbre:=hbr9.grown hge hbr9.size (fun k hk=>by cases hk;omega)
   go_wp2
   refine bodyPost_ret (v:=.tuple #[.agg (dW zPg),.bool false,.int .i64 0]) (dP Tryz.results55 _ _ (w.heap.size+1) _ _ _ _ _ rfl rfl rfl pxe Tryz.underlying79 rfl psize) rfl ?_
   rw[hsee.out]
   exact⟨rfl,hbre⟩
  have hpg:=Lib.hid (hR'.out.pt.pg hog'.out)
  have hfil:Hid (H.ma.st.fs.length=H.fi.length):=Lib.hid (List.length_map _)
  go_upto_region 15 with (fail)
  by_cases f1:(H.fi.length:Int)≤g.fi
  ·have hsee:Hid (fJ H.ma p n=(zPg,false,9)):=Lib.hid (by rw[hsee0.out,if_neg f0,if_pos (.inl (by have:=hfil.out;omega))])
   refine aG 21 [_,_,_,_,_,_,_,_,_,_,_,_,_,_,_,_,_,_,_,_,.v (.bool true)] (Gf w2.heap.size 4 rfl rfl (Gl ox5 rfl rfl rfl rfl rfl (Gf w.heap.size 7 rfl rfl (Gf w.heap.size 7 rfl rfl (Gl bx5 rfl rfl rfl rfl rfl (Gn rfl rfl rfl rfl (Gb (.bool true) (by simp[go_sem,f1]) rfl rfl rfl rfl rfl (Gk rfl (Gk rfl (Gk rfl (Gk rfl (Gk rfl (Gk rfl (Gk rfl (Gk rfl (Gk rfl (Gk rfl (Gk rfl (Gk rfl (Gk rfl (Gk rfl (aB)))))))))))))))))))))) (fun _=>rfl) rfl ?_
   intro y W8 hbW8 _
   have hbr9:=ae hbr5 hbW8
   have px9:=px5.ext hbW8
   clear hsee0 hpg hfil
   go_wp2_with (refine az rfl _ _ _ rfl (w.heap.size+1) (dW zPg) rfl rfl _ _ px9 rfl psize (eD _) ?_)
   intro we pxe hge
   have hbre:=hbr9.grown hge hbr9.size (fun k hk=>by cases hk;omega)
   go_wp2
   refine bodyPost_ret (v:=.tuple #[.agg (dW zPg),.bool false,.int .i64 9]) (dP Tryz.results55 _ _ (w.heap.size+1) _ _ _ _ _ rfl rfl rfl pxe Tryz.underlying79 rfl psize) rfl ?_
   rw[hsee.out]
   exact⟨rfl,hbre⟩
  obtain⟨F,hF⟩:∃F:Nat,g.fi=F:=⟨g.fi.toNat,by omega⟩
  have hFl:F<H.fi.length:=by omega
  obtain⟨bf,of,hai,hfl⟩:=gB kv (by decide) hM5.st.rd F hFl
  have hPl:Hid (aV H.ma.st g.fi=(H.fi[F]).fi):=Lib.hid (by
   rw[hF]
   exact jZ (by show (H.fi.map PF.fi)[F]?=_;rw[List.getElem?_map,List.getElem?_eq_getElem hFl];rfl))
  generalize H.fi[F]=Q at *
  have hcs:∀W,Below w5.heap.size w5 W→W.cell? ⟨bf,of+F*2+1,none⟩=some (.slice Q.a Q.l.length Q.c):=fun W hb=>by
   obtain⟨b',o',e,hc⟩:=(hfl.below hb) 1 _ rfl
   cases e
   exact hc
  have hlen:Hid ((aV H.ma.st g.fi).b.length=Q.l.length):=Lib.hid (by rw[hPl.out];rfl)
  have hFh:=Lib.hid hF
  clear hF
  by_cases f2:(Q.l.length:Int)≤g.pg
  ·have hsee:Hid (fJ H.ma p n=(zPg,false,9)):=Lib.hid (by
    rw[hsee0.out,if_neg f0]
    by_cases hin:(H.ma.st.fs.length:Int)≤g.fi∨tC H.ma.st g.fi g.pg=true
    ·rw[if_pos hin]
    ·have h9:=EG hR'.out.pt.st (by omega) hpg.out.1 hin
     have:=h9.2.2
     have:=hlen.out
     omega)
   refine aG 21 [_,_,_,_,_,_,_,_,_,_,_,_,_,_,_,_,_,_,_,_,.v (.bool true)] (Gf w2.heap.size 4 rfl rfl (Gl ox5 rfl rfl rfl rfl rfl (Gf w.heap.size 7 rfl rfl (Gf w.heap.size 7 rfl rfl (Gl bx5 rfl rfl rfl rfl rfl (Gn rfl rfl rfl rfl (Gb (.bool false) (by simp[go_sem,f1]) rfl rfl rfl rfl rfl (Gk rfl (Gf w2.heap.size 5 rfl rfl (Gl ox5 rfl rfl rfl rfl rfl (Gf w.heap.size 7 rfl rfl (Gf w.heap.size 7 rfl rfl (Gl bx5 (V:=.slice (some ⟨bf,of,none⟩) H.fi.length H.ci) (by simp[bR,hai]) rfl rfl rfl rfl (Gf w2.heap.size 4 rfl rfl (Gl ox5 (V:=.int .i64 (F:Int)) (by simp[hFh.out]) rfl rfl rfl rfl (Gr (.pointer (some ⟨bf,of+F*2,none⟩)) (fun ρ y W hb hKn=>(aU rfl (aA rfl hKn) (aA rfl hKn) hFl Tryz.underlying35 file_size)) rfl rfl (Gf bf (of+F*2+1) rfl rfl (Gc (.slice Q.a Q.l.length Q.c) (fun W hb=>by simp[hcs _ hb]) rfl rfl rfl rfl (Gn rfl rfl rfl rfl (Gb (.bool true) (by simp[go_sem,f2]) rfl rfl rfl rfl rfl (Gk rfl (aB)))))))))))))))))))))) (fun _=>rfl) rfl ?_
   intro y W8 hbW8 _
   have hbr9:=ae hbr5 hbW8
   have px9:=px5.ext hbW8
   clear hsee0 hpg hfil hcs
   go_wp2_with (refine az rfl _ _ _ rfl (w.heap.size+1) (dW zPg) rfl rfl _ _ px9 rfl psize (eD _) ?_)
   intro we pxe hge
   have hbre:=hbr9.grown hge hbr9.size (fun k hk=>by cases hk;omega)
   go_wp2
   refine bodyPost_ret (v:=.tuple #[.agg (dW zPg),.bool false,.int .i64 9]) (dP Tryz.results55 _ _ (w.heap.size+1) _ _ _ _ _ rfl rfl rfl pxe Tryz.underlying79 rfl psize) rfl ?_
   rw[hsee.out]
   exact⟨rfl,hbre⟩
  ·have hin0:BV H.ma.st g.fi g.pg:=⟨⟨by omega,by have:=hfil.out;omega⟩,hpg.out.1,by have:=hlen.out;omega⟩
   have hin:=Lib.hid hin0
   clear hin0
   have hsee:Hid (fJ H.ma p n=(aY H.ma g.fi g.pg,false,0)):=Lib.hid (by
    rw[hsee0.out,if_neg f0,if_neg (Cr hR'.out.pt.st hin.out)])
   refine aG 21 [_,_,_,_,_,_,_,_,_,_,_,_,_,_,_,_,_,_,_,_,.v (.bool false)] (Gf w2.heap.size 4 rfl rfl (Gl ox5 rfl rfl rfl rfl rfl (Gf w.heap.size 7 rfl rfl (Gf w.heap.size 7 rfl rfl (Gl bx5 rfl rfl rfl rfl rfl (Gn rfl rfl rfl rfl (Gb (.bool false) (by simp[go_sem,f1]) rfl rfl rfl rfl rfl (Gk rfl (Gf w2.heap.size 5 rfl rfl (Gl ox5 rfl rfl rfl rfl rfl (Gf w.heap.size 7 rfl rfl (Gf w.heap.size 7 rfl rfl (Gl bx5 (V:=.slice (some ⟨bf,of,none⟩) H.fi.length H.ci) (by simp[bR,hai]) rfl rfl rfl rfl (Gf w2.heap.size 4 rfl rfl (Gl ox5 (V:=.int .i64 (F:Int)) (by simp[hFh.out]) rfl rfl rfl rfl (Gr (.pointer (some ⟨bf,of+F*2,none⟩)) (fun ρ y W hb hKn=>(aU rfl (aA rfl hKn) (aA rfl hKn) hFl Tryz.underlying35 file_size)) rfl rfl (Gf bf (of+F*2+1) rfl rfl (Gc (.slice Q.a Q.l.length Q.c) (fun W hb=>by simp[hcs _ hb]) rfl rfl rfl rfl (Gn rfl rfl rfl rfl (Gb (.bool false) (by simp[go_sem,f2]) rfl rfl rfl rfl rfl (Gk rfl (aB)))))))))))))))))))))) (fun _=>rfl) rfl ?_
   intro y W8 hbW8 _
   have hbr8:=ae hbr5 hbW8
   have px8:=px5.ext hbW8
   have bx8:=bx5.ext hbW8
   have hM8:=hM5.below hbW8
   have ho:=(ox5.ext hbW8).cell
   clear hsee0 hcs hbr5 px5 bx5 hM5 ox5 hbW8 hfl
   go_wp2_with (refine ay _ _ rfl w.heap.size 0 rfl rfl _ bx8.rd _ Tryz.underlying41 rfl machine_size ?_)
   refine (nQ H g.fi g.pg _ hM8 ⟨(kX hR'.out).ca,fun f hf=>Nat.le_trans (qm hR'.out.pt.st f hf) (by decide)⟩ hR'.out.ca.lt ⟨by omega,by omega⟩ hin.out.2).mono ?_
   rintro r w9 ⟨rfl,hb9⟩
   have hbr9:=ae hbr8 hb9
   have px9:=px8.ext hb9
   clear hbr8 px8 bx8 hM8 ho hb9
   go_wp2_with (refine az rfl _ _ _ rfl (w.heap.size+1) (dW (aY H.ma g.fi g.pg)) rfl rfl _ _ px9 rfl psize (eD _) ?_)
   intro we pxe hge
   have hbre:=hbr9.grown hge hbr9.size (fun k hk=>by cases hk;omega)
   go_wp2
   refine bodyPost_ret (v:=.tuple #[.agg (dW (aY H.ma g.fi g.pg)),.bool false,.int .i64 0]) (dP Tryz.results55 _ _ (w.heap.size+1) _ _ _ _ _ rfl rfl rfl pxe Tryz.underlying79 rfl psize) rfl ?_
   rw[hsee.out]
   exact⟨rfl,hbre⟩
theorem Gv (H:MH) (p n:Nat) (w:World) (h:rC w H) (hR:Rt H.ma) (hp:p<H.sp.length) (hn:n<64) :
  Calls Tryz.prog 53 #[.agg (bR H),.int .i64 p,.int .i64 n] w fun r w'=>r = .returned (.tuple #[.agg (dW (fJ H.ma p n).1),.bool (fJ H.ma p n).2.1,.int .i64 (fJ H.ma p n).2.2])∧Below w.heap.size w w':=by
 have hR':=Lib.hid hR
 clear hR
 go_enter Tryz.func53,Tryz.ntmps53
 go_upto_region 1 with (fail)
 refine mg (fun W=>Code.wp _ _ _ _ W) fun w1 hb1 bx1 px1 hs1 => ?_
 have bx1:aF w1 w.heap.size (bR H) 41:=bx1
 have h1:=h.below hb1
 clear h hs1
 go_wp2_with (refine ay _ _ rfl w.heap.size 0 rfl rfl _ bx1.rd _ Tryz.underlying41 rfl machine_size ?_)
 refine (rz H _ h1 hR'.out).mono ?_
 rintro r w2 ⟨rfl,hb2⟩
 have h2:=h1.below hb2
 have bx2:=bx1.ext hb2
 have px2:=px1.ext hb2
 have hbr2:=ae hb1 hb2
 clear h1 bx1 px1 hb1 hb2
 go_wp2_with (refine ay _ _ rfl w.heap.size 0 rfl rfl _ bx2.rd _ Tryz.underlying41 rfl machine_size ?_)
 refine (GR H p n _ h2 hR'.out hp hn).mono ?_
 rintro r w3 ⟨rfl,hb3⟩
 have px3:=px2.ext hb3
 have hbr3:=ae hbr2 hb3
 clear h2 bx2 px2 hbr2 hb3
 go_wp2_with (refine az rfl _ _ _ rfl (w.heap.size+1) (dW (fJ H.ma p n).1) rfl rfl _ _ px3 rfl psize (eD _) ?_)
 intro we pxe hge
 have hbre:=hbr3.grown hge hbr3.size (fun k hk=>by cases hk;omega)
 go_wp2
 refine bodyPost_ret (v:=.tuple #[.agg (dW (fJ H.ma p n).1),.bool (fJ H.ma p n).2.1,.int .i64 (fJ H.ma p n).2.2]) (dP Tryz.results53 _ _ (w.heap.size+1) _ _ _ _ _ rfl rfl rfl pxe Tryz.underlying79 rfl psize) rfl ?_
 exact⟨rfl,hbre⟩
def EE (m:Ma) (f:Int) (j:Nat):Value:=(dW (aY m f (j / 8:Nat))).getD (j%8) (.int .u8 0)
def pq (m:Ma) (f:Int) (n:Nat):List Value:=(List.range n).map (EE m f)
theorem Bt (m:Ma) (f:Int) (n:Nat):pq m f (n+1)=pq m f n++[EE m f n]:=by
 unfold pq
 rw[List.range_succ,List.map_append];rfl
theorem uo {w:World} {b:Nat} {cs cs' : Array Value} {T T' : TypeId} (h:aF w b cs T) (hk:aF w b cs' T') (hT:T'≠T):False:=by
 unfold aF at h hk
 rw[hk] at h
 simp at h
 exact hT h.2
theorem u8_size:(Tryz.prog.info? 5).map (·.size)=some 1:=by kernel_rfl
theorem Ae (X:Page) (q:Nat) (hq:q<8) (w:World):(Instr.index 79 (.agg (dW X)) (.int .i64 q)).run Tryz.prog w = .ok (.int .u8 X[q].toNat) w:=by
 have hg:=vv X q hq
 have ha:¬((q:Int)<0∨(8:Int)≤q):=by omega
 have hs:∃i,Tryz.prog.info? 5=some i∧i.size=1:=by
  have:=u8_size
  cases h:Tryz.prog.info? 5 with
  | none=>rw[h] at this;simp at this
  | some i=>rw[h] at this;exact⟨i,rfl,by simpa using this⟩
 obtain⟨i,hi,hs⟩:=hs
 simp[Instr.index,part,asIntOf,run_underlying Tryz.underlying79,run_underlying Tryz.underlying5,Go.sizeOf,typeInfo,hi,hs,ha,go_sem,hg,hq]
theorem vX (H:MH) (f:Nat) (w:World) (h:rC w H) (hR:Rt H.ma) (hz:H.ca.length≤1000∧∀f∈H.ma.st.fs,f.b.length≤1000) (hck:∀c∈H.ca,0≤c.k∧c.k<H.m.fs.length) (hf:f<H.fi.length) (hsz:0≤(aV H.ma.st f).n∧(aV H.ma.st f).n≤(aV H.ma.st f).b.length*8) :
  Calls Tryz.prog 17 #[.agg (bR H),.int .i64 f] w fun r w' => ∃(v:Value),r = .returned (.tuple #[v,.int .i64 0])∧Own w' w.heap.size 5 1 v (aV H.ma.st f).n.toNat (pq H.ma f (aV H.ma.st f).n.toNat)∧Below w.heap.size w w':=by
 have hR':=Lib.hid hR
 clear hR
 go_enter Tryz.func17,Tryz.ntmps17
 go_upto_region 1 with (fail)
 refine fo (fun W=>Code.wp _ _ _ _ W) fun w1 hb1 bx1 hs1 => ?_
 have bx1:aF w1 w.heap.size (bR H) 41:=bx1
 have h1:=h.below hb1
 clear hs1
 go_wp2_with (refine ay _ _ rfl w.heap.size 0 rfl rfl _ bx1.rd _ Tryz.underlying41 rfl machine_size ?_)
 refine (rz H _ h1 hR'.out).mono ?_
 rintro r w2 ⟨rfl,hb2⟩
 have bx2:=bx1.ext hb2
 have hbr2:=ae hb1 hb2
 have hc:=bx2.cell
 unfold bR at hc
 have hki:(f:Int)<(H.fi.length:Int):=by omega
 have hk0:¬(f:Int)<0:=by omega
 have hk1:¬(H.fi.length:Int)≤(f:Int):=by omega
 obtain⟨bf,of,hai,hrd⟩:=gB kv (by decide) h.st.rd f hf
 obtain⟨p,hp⟩:∃p,H.fi[f]?=some p:=⟨_,List.getElem?_eq_getElem hf⟩
 rw[show H.fi[f]=p from (List.getElem?_eq_some_iff.1 hp).2] at hrd
 have hfa:aV H.ma.st (f:Int)=p.fi:=by
  unfold aV
  rw[if_pos (by omega)]
  show (H.fi.map PF.fi).getD f ⟨0,[]⟩=p.fi
  rw[List.getD_eq_getElem?_getD,List.getElem?_map,hp];rfl
 have hpz:p.l.length≤1000:=hz.2 p.fi (List.mem_map.2 ⟨p,List.mem_of_getElem? hp,rfl⟩)
 rw[hfa] at hsz
 have hs0:0≤p.n:=hsz.1
 have hs1:p.n≤p.l.length*8:=hsz.2
 have hfn:(aV H.ma.st f).n=p.n:=by rw[hfa];rfl
 have hfl:(aV H.ma.st f).b.length=p.l.length:=by rw[hfa];rfl
 clear hsz hfa
 clear h1 bx1 hb1 hb2
 go_upto_region 8 with (fail)
 clear hc
 go_loopw [8,7] (fun i u wr => ∃k:Nat,(k:Int)≤p.n∧i = .int .i64 k∧Below w.heap.size w wr∧aF wr w.heap.size (bR H) 41∧Own wr w.heap.size 5 1 u k (pq H.ma f k)) (fun i _ _=>p.n.toNat-(intOf i).toNat)
 case atStart=>exact⟨0,by omega,rfl,hbr2,bx2,Own.nil _ _ _ _⟩
 case round=>
  clear hbr2 bx2
  obtain⟨k,hk,rfl,hbr,bx,hown⟩:=hrel
  have hcx:=bx.cell
  unfold bR at hcx
  rw[hai] at hcx
  have hrd1:=hrd.below hbr
  have rc0:wr.cell? ⟨bf,of+f*2,none⟩=some (.int .i64 p.n):=by
   obtain⟨b',o',e,hcc⟩:=hrd1 0 _ rfl
   cases e
   exact hcc
  by_cases hkn:(k:Int)<p.n
  ·have hk8:(k:Int) / 8<((aV H.ma.st (f:Int)).b.length:Int):=by rw[hfl];omega
   go_wp2_with (refine ay _ _ rfl w.heap.size 0 rfl rfl _ bx.rd _ Tryz.underlying41 rfl machine_size ?_)
   refine (nQ H f ((k:Int) / 8) _ (h.below hbr) hz hck ⟨by omega,hki⟩ ⟨by omega,hk8⟩).mono ?_
   rintro r w3 ⟨rfl,hb3⟩
   have hbr3:=ae hbr hb3
   have bx3:=bx.ext hb3
   have hown3:=hown.below hb3
   obtain⟨X,hX⟩:∃X,X=aY H.ma f ((k:Int) / 8):=⟨_,rfl⟩
   rw[←hX]
   obtain⟨q,hq⟩:∃q,k%8=q:=⟨_,rfl⟩
   have h78:q<8:=by omega
   have hg:=vv X q h78
   have hv:Hid (EE H.ma f k = .int .u8 X[q].toNat):=Lib.hid (by
    unfold EE
    rw[show ((k / 8:Nat):Int)=(k:Int) / 8 from by omega,←hX,hq]
    simp[Array.getD_eq_getD_getElem?,hg])
   have e78:((k:Int)%8)=(q:Int):=by omega
   have hk1000:k+1≤8000:=by omega
   clear hX hcx rc0 hq hk8
   go_wp2_with fail
   rw[e78]
   have hix:=Ae X q h78
   go_wp2_with fail
   rw[hix]
   go_wp2_with (first | (at_builtin;refine jm rfl _ _ 24 rfl w.heap.size 5 _ 1 1 Tryz.underlying24 byte_info rfl (by decide) _ k (pq H.ma f k) rfl (hown3.alloc _) (some ⟨w3.heap.size,0,none⟩) 1 1 [.int .u8 X[q].toNat] rfl (fun h=>(by cases h)) (Nat.le_refl _) rfl (cZ.new _ #[.int .u8 X[q].toNat] _) (fun u hu=>by simp at hu;subst hu;rfl) (by unfold maxLen;omega) (by omega) (by have:=hbr3.size;simp;omega) ?_))
   intro v w5 hown5 hg5 hso
   have hbr5:Below w.heap.size w w5:=(hbr3.alloc hbr3.size _).grown hg5 (dz hbr3.size _) (hown3.alloc (.cells #[.int .u8 X[q].toNat] 5)).ge
   have bx5:aF w5 w.heap.size (bR H) 41:=(bx3.alloc (.cells #[.int .u8 X[q].toNat] 5)).grown hg5 (fun e=>by
    rcases hown3.2 with ⟨e1,_⟩|⟨g2,off,cap,cur,e1,_,hb,_⟩
    ·rw[e1] at e;cases e
    ·rw[e1] at e;cases e;exact uo hb bx3 (by decide))
   rw[←hv.out,←Bt] at hown5
   go_wp2
   go_roundw
   case rel=>exact⟨v,.int .i64 ((k+1:Nat):Int),_,_,_,_,_,_,_,_,_,_,_,_,_,_,_,_,_,_,_,_,_,_,⟨k+1,by omega,rfl,hbr5,bx5,hown5⟩,by
    have e1:decide (H.fi.length≤f)=false:=decide_eq_false (by omega)
    rw[e1,Bool.or_false]
    rfl⟩
   case measure=>simp[intOf];omega
  ·go_wp2
   go_ret2
   have hkk:p.n.toNat=k:=by omega
   exact⟨_,rfl,by rw[hkk];exact hown,hbr⟩
def mX (H:MH) (p:Int):Bool:=if 0≤p then ((H.sp[p.toNat]?).map PS.lv).getD false else false
theorem wN (H:MH) (p:Int) (w:World) (h:rC w H) :
  Calls Tryz.prog 12 #[.agg (bR H),.int .i64 p] w fun r w'=>r = .returned (.bool (mX H p))∧Below w.heap.size w w':=by
 go_enter Tryz.func12,Tryz.ntmps12
 go_upto_region 1 with (fail)
 refine fo (fun W=>Code.wp _ _ _ _ W) fun w1 hb1 bx1 hs1 => ?_
 have bx1:aF w1 w.heap.size (bR H) 41:=bx1
 have h1:=h.below hb1
 clear h hs1
 have hc:=bx1.cell
 unfold bR at hc
 by_cases h0:0≤p
 ·obtain⟨q,rfl⟩:=Int.eq_ofNat_of_zero_le h0
  by_cases hq:q<H.sp.length
  ·have hqi:(q:Int)<(H.sp.length:Int):=by omega
   obtain⟨bs,os,P,hap,hP,hrd⟩:=kL h1.sp.rd q hq
   have hs0:w1.cell? ⟨bs,os+q*10,none⟩=some (.bool P.lv):=by
    obtain⟨b',o',e,hcc⟩:=hrd 0 _ rfl
    cases e
    exact hcc
   rw[hap] at hc
   have e:mX H (q:Int)=P.lv:=by unfold mX;rw[if_pos h0,Int.toNat_natCast,hP];rfl
   have e:=Lib.hid e
   clear hrd hP
   go_wp2
   go_ret
   exact⟨by first | rfl | (rw[e.out];rfl),hb1⟩
  ·have hqi:¬(q:Int)<(H.sp.length:Int):=by omega
   have e:mX H (q:Int)=false:=by unfold mX;rw[if_pos h0,Int.toNat_natCast,List.getElem?_eq_none (by omega)];rfl
   have e:=Lib.hid e
   go_wp2
   go_ret
   exact⟨by first | rfl | (rw[e.out];rfl),hb1⟩
 ·have e:mX H p=false:=by unfold mX;rw[if_neg h0]
  have e:=Lib.hid e
  go_wp2
  go_ret
  exact⟨by first | rfl | (rw[e.out];rfl),hb1⟩
theorem AB (k:Kp) (f n:Int):(eZ k f n).m.sp=k.m.sp:=by unfold eZ;split<;>rfl
theorem lU (k:Kp) (p:Nat) (n:Int) (e:En):(fB k p n e).m.sp.length=k.m.sp.length∧∀j,(bP (fB k p n e).m j).ar=(bP k.m j).ar:=by
 unfold fB
 split
 ·refine⟨by unfold setTb;exact List.length_set,fun j => ?_⟩
  unfold setTb bP
  simp only[List.getD_eq_getElem?_getD,List.getElem?_set]
  split
  ·rename_i e;subst e
   split
   ·simp
   ·rename_i h;rw[List.getElem?_eq_none (by omega)]
  ·rfl
 ·exact⟨rfl,fun _=>rfl⟩
theorem qf {H H' : MH} (h:H'.ma.sp.length=H.ma.sp.length):H'.sp.length=H.sp.length:=by rw[qw,qw] at h;exact h
theorem KS.box {w0 w w' : World} {b y:Nat} {H0 H:MH} (h:KS w0 b H0 w H) (hg:w.grownBy w' (some y)) (hy:w0.heap.size≤y):KS w0 b H0 w' H:=
 ⟨hg.os.trans h.os,hg.tape.trans h.tape,hg.output.trans h.output,Nat.le_trans h.size hg.size,fun x hx hn=>(hg.block x (Nat.lt_of_lt_of_le hx h.size) (fun e=>by
  have e' : x=y:=Option.some.inj e
  omega)).trans (h.keep x hx hn),h.sn⟩
def Nb (H:MH) (y:Nat):Prop:=∀p∈H.sp,∀k:Nat,∀v,(iP p.ts)[k]?=some v→v.ownBlock≠some y
theorem Nb.new {w:World} {B:Nat} {H:MH} (h:qK w B H) {y:Nat} (hy:w.heap.size≤y):Nb H y:=fun p hp k v hv e=>by
 have ht:=(h.ps p hp).2
 have hk:k<8:=by
  have:=(Array.getElem?_eq_some_iff.1 hv).1
  rw[ht.sz] at this;exact this
 obtain⟨v',h1,h2⟩:=ht.own k hk
 rw[hv] at h1
 cases h1
 obtain⟨cs,hb⟩:=ic h2 y e
 have:=hb.lt
 omega
theorem lc.keepN {w w' : World} {B:Nat} {cs:Array Value} {t:Tb} (h:lc w B cs t) {g:Nat} (hn:∀(k:Nat) v,cs[k]?=some v→v.ownBlock≠some g) (hgr:w.grownBy w' (some g)):lc w' B cs t:=
 ⟨h.sz,fun k hk=>by
  obtain⟨v,h1,h2⟩:=h.own k hk
  exact⟨v,h1,h2.grown hgr (fun g' hg' e=>hn k v h1 (by rw[hg',←e]))⟩,h.apart⟩
theorem jX.boxE {w w' : World} {B b y:Nat} {H:MH} {e:Int} (h:jX w B b H e) {cs:Array Value} (hk:aF w y cs 89) (hn:Nb H y) (hg:w.grownBy w' (some y)):jX w' B b H e:=
 have m:=h.ma
 ⟨bD h.blk hk (by decide) hg,h.ge,⟨ak m.fr hk (by decide) hg,ak m.sl hk (by decide) hg,m.sw.keep hk (by decide) (by decide) hg,m.dk.keep hk (by decide) (by decide) hg,m.st.keep hk (by decide) (by decide) hg,ak m.ca hk (by decide) hg,ak m.sp hk (by decide) hg,
  fun p hp=>⟨ak (m.ps p hp).1 hk (by decide) hg,(m.ps p hp).2.keepN (hn p hp) hg⟩,m.c64⟩,h.tz⟩
theorem entTy:89≠96∧89≠81∧89≠106∧89≠55:=by decide
theorem NS {w:World} {y:Nat} {x:En} (h:aF w y (fI x) 89):cZ w (some ⟨y,0,none⟩) [.int .i64 x.k,.int .i64 x.n,.bool x.w]:=bQ h 0 3
theorem DF (H:MH) (e n:Int) (p q:Nat) (B b:Nat) (w:World) (h:jX w B b H e) (hp:p<H.sp.length) (hq:q<H.sp.length) (hf:0≤fw (bP H.ma p).ar n) :
  Calls Tryz.prog 43 #[.pointer (some ⟨b,0,none⟩),.int .i64 p,.int .i64 q,.int .i64 n] w fun r w'=>r = .returned (.tuple #[])∧KR w B b H w' (gM ⟨H.ma,e⟩ p q n):=by
 obtain⟨P,hP⟩:∃P,H.sp[p]?=some P:=⟨_,List.getElem?_eq_getElem hp⟩
 have hsp:=Lib.hid (jr hP)
 have hfH:=Lib.hid hf
 clear hf
 obtain⟨g,off,hap,hrd,hrt,hgood⟩:=h.at hP
 have hc:=h.blk.cell
 unfold qy at hc
 rw[hap] at hc
 have hpi:(p:Int)<(H.sp.length:Int):=by omega
 go_enter Tryz.func43,Tryz.ntmps43
 go_wp2_with (refine ay _ _ rfl g (off+p*10+2) rfl rfl _ hrt _ Tryz.underlying53 tab_agg tab_size ?_)
 refine (wV P.tb (iP P.ts) n _ hgood.tb).mono ?_
 rintro r w1 ⟨rfl,hb1⟩
 have h1:=h.below hb1
 have s1:=(KS.refl w b H).below hb1
 clear hc hrd hrt hgood
 generalize hx:cB P.tb n=x
 go_wp2_with (refine aH rfl _ _ _ rfl (fI x) rfl rfl rfl entry_size (by simp[fI,Value.oneCell']) ?_)
 intro w2 hb2 hx2
 have hN2:=Lib.hid (Nb.new h1.ma (Nat.le_refl _))
 have hy2:Hid (w.heap.size≤w1.heap.size):=Lib.hid hb1.size
 have h2:=h1.below hb2
 have s2:=s1.below hb2
 clear h1 s1 hb1 hb2 h
 have hc2:=hx2.cell
 unfold fI at hc2
 have hgx:Hid (ent H.ma p n=x):=Lib.hid (by unfold ent;rw[hsp.out];exact hx)
 clear hx
 by_cases hk2:x.k=2
 ·rw[hk2] at hc2
  have hxk:=Lib.hid hk2
  clear hk2
  have hck:=h2.blk.cell
  unfold qy at hck
  go_upto_region 2 with (fail)
  refine lG 13 [_,_,_,_,_,_,_,.r 7 ((uX w2.heap.size 3 1 (bA H.sl x.n 1).length ((bA H.sl x.n 1).map dL) (bM H.sl x.n 1))),.r 8 ((uX w2.heap.size 3 1 (bA H.sl x.n 1).length ((bA H.sl x.n 1).map dL) (bM H.sl x.n 1))),.r 9 ((il w2.heap.size 3 1 (bA H.sl x.n 1).length ((bA H.sl x.n 1).map dL))),.v (.int .i64 (bM H.sl x.n 1)),.r 11 ((il w2.heap.size 3 1 (bA H.sl x.n 1).length ((bA H.sl x.n 1).map dL))),.v (.int .i64 (bM H.sl x.n 1))] (fun W=>Below w2.heap.size w2 W) gK (Below.refl _ _) (Yk gK rfl (Yk gK rfl (Yf gK b 0 rfl rfl (Yf gK b 2 rfl rfl (Yc gK (.slice H.asl H.sl.length H.csl) (fun W hb=>by simp[(h2.below hb).blk.cell,qy]) rfl rfl rfl rfl (Yf gK w1.heap.size 1 rfl rfl (Yc gK (.int .i64 x.n) (fun W hb=>by simp[(hx2.ext hb).cell,fI]) rfl rfl rfl rfl (ag ?_ (ag ?_ (ag ?_ (ag ?_ (ag ?_ (Yk gK rfl (aB)))))))))))))) (fun _=>rfl) rfl ?_
  ·intro ρ y W hw hn hb hd
   refine mh gK hb ((uX w2.heap.size 3 1 (bA H.sl x.n 1).length ((bA H.sl x.n 1).map dL) (bM H.sl x.n 1))) (fun _ _ h=>h) ?_
   have E31:=hw 31 4 rfl
   have h4:y 4 = .slice H.asl H.sl.length H.csl:=hd 4 rfl
   have E33:=hw 33 6 rfl
   have h6:y 6 = .int .i64 x.n:=hd 6 rfl
   have EC:∀v,ρ (.const v)=v:=fun v=>hn (.const v) trivial
   have EF:∀f,ρ (.func f) = .func (.func f) #[] #[]:=fun f=>hn (.func f) trivial
   refine aJ _ _ (ah rfl) (aK rfl (EF _) Tryz.func78 (by kernel_rfl) (by kernel_rfl) (by simp only[List.map_toArray,List.map_cons,List.map_nil,E31,h4,E33,h6,EC,EF];rfl)) ?_
   have hm:=(h2.below hb).ma.rd.sl
   refine (vY H.sl H.asl H.csl x.n 1 W hm.le hm.nl hm.rd (by have:=hm.le;have:=hm.mx;unfold maxLen at this;omega)).mono ?_
   rintro r W3 ⟨u,rfl,ho,hb3⟩
   exact⟨_,rfl,hb3,u,rfl,ho.mono hb.size⟩
  ·intro ρ y W hw hn hb hd
   refine mh gK hb ((uX w2.heap.size 3 1 (bA H.sl x.n 1).length ((bA H.sl x.n 1).map dL) (bM H.sl x.n 1))) (fun _ _ h=>h) ?_
   have E34:=hw 34 7 rfl
   have h7:=hd 7 rfl
   refine aj _ (ah rfl) (run_move (.inl rfl) E34) ?_
   exact h7
  ·intro ρ y W hw hn hb hd
   refine mh gK hb ((il w2.heap.size 3 1 (bA H.sl x.n 1).length ((bA H.sl x.n 1).map dL))) (fun _ _ h=>h) ?_
   have E26:=hw 26 8 rfl
   have h8:=hd 8 rfl
   obtain⟨u,hu,ho⟩:=h8
   refine aj u (ah rfl) (by simp[execOp,go_sem,bZ,E26,hu]) ?_
   exact ho
  ·intro ρ y W hw hn hb hd
   refine mh gK hb (nU (.int .i64 (bM H.sl x.n 1))) (fun _ _ h=>h) ?_
   have E26:=hw 26 8 rfl
   have h8:=hd 8 rfl
   obtain⟨u,hu,ho⟩:=h8
   refine aj (.int .i64 (bM H.sl x.n 1)) (ah rfl) (by simp[execOp,go_sem,bZ,E26,hu]) rfl
  ·intro ρ y W hw hn hb hd
   refine mh gK hb ((il w2.heap.size 3 1 (bA H.sl x.n 1).length ((bA H.sl x.n 1).map dL))) (fun _ _ h=>h) ?_
   have E35:=hw 35 9 rfl
   have h9:=hd 9 rfl
   refine aj _ (ah rfl) (run_move (.inr rfl) E35) ?_
   exact h9
  intro y W3 hbW3 hRW3
  replace hbW3:Below w2.heap.size w2 W3:=hbW3
  have hy7:((uX w2.heap.size 3 1 (bA H.sl x.n 1).length ((bA H.sl x.n 1).map dL) (bM H.sl x.n 1))).r (y 7) W3:=hRW3 7 (by decide)
  have hy8:((uX w2.heap.size 3 1 (bA H.sl x.n 1).length ((bA H.sl x.n 1).map dL) (bM H.sl x.n 1))).r (y 8) W3:=hRW3 8 (by decide)
  have hy9:((il w2.heap.size 3 1 (bA H.sl x.n 1).length ((bA H.sl x.n 1).map dL))).r (y 9) W3:=hRW3 9 (by decide)
  have hy11:((il w2.heap.size 3 1 (bA H.sl x.n 1).length ((bA H.sl x.n 1).map dL))).r (y 11) W3:=hRW3 11 (by decide)
  clear hRW3
  simp only[bJ,bZ,List.map_cons,List.map_nil]
  have ho3:Own W3 w2.heap.size 3 1 (y 11) (bA H.sl x.n 1).length ((bA H.sl x.n 1).map dL):=hy11
  obtain⟨a3,c3,e7,_⟩:=Own.rd ho3
  rw[e7] at ho3
  simp only[e7]
  have k3:=h2.below hbW3
  have s3:=s2.below hbW3
  have hx3:=hx2.ext hbW3
  have hge:=Lib.hid (Nat.le_trans h2.bs (Nat.le_refl _))
  clear hy7 hy8 hy9 hy11 e7 hc2 hck h2 s2 hx2 hbW3
  by_cases h0:bM H.sl x.n 1=0
  ·have hq2:Hid (gM ⟨H.ma,e⟩ p q n=fB ⟨{ H.ma with sl:=bA H.sl x.n 1 },e⟩ q n x):=Lib.hid (by
    unfold gM
    simp only[hgx.out]
    rw[if_pos hxk.out]
    exact if_neg (fun h=>h h0))
   rw[h0]
   go_wp2_with (first | (refine aC rfl _ _ _ rfl b 2 _ [.slice a3 (bA H.sl x.n 1).length c3] rfl rfl rfl _ _ k3.blk (by show 2+1≤12;decide) slots_size (fun u hu=>by cases List.mem_singleton.1 hu;rfl) ?_))
   intro w5 hb5 hg5
   have k5:=k3.setL (ho3.mono hge.out) hb5 hg5
   have s5:KS w b H w5 { H with asl:=a3,csl:=c3,sl:=bA H.sl x.n 1 }:=s3.putB hg5 rfl rfl rfl
   have hx5:=NS (bD hx3 k3.blk (by decide) hg5)
   clear s3 k3 ho3 hx3
   go_wp2_with (refine ay _ _ rfl w1.heap.size 0 rfl rfl _ hx5 _ Tryz.underlying89 rfl entry_size ?_)
   refine (jf _ e n q x B b _ k5 hq).mono ?_
   rintro r w6 ⟨rfl,hk6⟩
   go_wp2
   simp[bodyPost,results,go_sem,Tryz.results43]
   rw[hq2.out]
   exact KR.trans s5 hk6
  ·have hq2:Hid (gM ⟨H.ma,e⟩ p q n=⟨H.ma,bM H.sl x.n 1⟩):=Lib.hid (by
    unfold gM
    simp only[hgx.out]
    rw[if_pos hxk.out]
    exact if_pos h0)
   go_wp2_with (refine aC rfl _ _ _ rfl b 11 _ [.int .i64 (bM H.sl x.n 1)] rfl rfl rfl _ _ k3.blk (by show 11+1≤12;decide) (by kernel_rfl) (fun u hu=>by cases List.mem_singleton.1 hu;rfl) ?_)
   intro w5 hb5 hg5
   have k5:=k3.setE hb5 hg5
   have s5:KS w b H w5 H:=s3.putB hg5 rfl rfl rfl
   go_wp2
   simp[bodyPost,results,go_sem,Tryz.results43]
   rw[hq2.out]
   exact⟨_,_,k5,s5,rfl⟩
 ·go_wp2_with fail
  refine (Bg H e x.n 1 B b _ h2).mono ?_
  rintro r w3 ⟨rfl,H3,e3,h3,s3,q3,hs3⟩
  have hx3:=s3.blk h2 hx2 entTy
  have s3':=s2.trans s3
  have hN3:Hid (Nb H3 w1.heap.size):=Lib.hid (by unfold Nb;rw[hs3];exact hN2.out)
  have hP3:H3.sp[p]?=some P:=by rw[hs3];exact hP
  have hq3:=Lib.hid q3
  have hl3:=Lib.hid hs3
  clear hc2 s3 q3 hs3 h2 s2 hx2 hN2
  obtain⟨g3,off3,hap3,hrd3,hrt3,hgood3⟩:=h3.at hP3
  have hA:=hgood3.ars
  have hc3:=h3.blk.cell
  unfold qy at hc3
  rw[hap3,hl3.out] at hc3
  have hcA:w3.cell? ⟨g3,off3+p*10+1,none⟩=some (.slice P.aa P.ar.length P.ac):=by
   obtain⟨b',o',e',hc'⟩:=hrd3 1 _ rfl
   cases e'
   exact hc'
  go_wp2_with fail
  refine (yY P.ar n P.aa P.ac _ hA.rd (by have:=hA.le;have:=hA.mx;unfold maxLen at this;omega)).mono ?_
  rintro r w4 ⟨rfl,hb4⟩
  clear hc3 hcA hrd3 hrt3
  obtain⟨k,hk,hkl,_⟩:=zl (q:=jP n) (l:=P.ar) (by show 0≤fw P.ar n;have:=hfH.out;rw[hsp.out] at this;exact this)
  have hk' : fw P.ar n=k:=hk
  obtain⟨ba,oa,haa,hard⟩:=gB lw (by decide) (hA.below hb4).rd k hkl
  have hsh:Hid (Nv (bP H.ma p).ar n=(P.ar[k]).sh):=Lib.hid (by
   rw[hsp.out]
   unfold Nv
   show (P.ar.getD (fw P.ar n).toNat zAr).sh=_
   rw[hk',Int.toNat_natCast,List.getD_eq_getElem?_getD,List.getElem?_eq_getElem hkl];rfl)
  generalize P.ar[k]=a at *
  rw[hk']
  have h4:=h3.below hb4
  have s4:=s3'.below hb4
  have hx4:=hx3.ext hb4
  obtain⟨g4,off4,hap4,hrd4,hrt4,hgood4⟩:=h4.at hP3
  have hc4:=h4.blk.cell
  unfold qy at hc4
  rw[hap4,hl3.out] at hc4
  have hcA:w4.cell? ⟨g4,off4+p*10+1,none⟩=some (.slice P.aa P.ar.length P.ac):=by
   obtain⟨b',o',e',hc'⟩:=hrd4 1 _ rfl
   cases e'
   exact hc'
  rw[haa] at hcA
  have hcS:w4.cell? ⟨ba,oa+k*7+4,none⟩=some (.bool a.sh):=by
   obtain⟨b',o',e',hc'⟩:=hard 4 _ rfl
   cases e'
   exact hc'
  have hki:(k:Int)<(P.ar.length:Int):=by omega
  have hq' : Hid (q<H3.sp.length):=Lib.hid (by rw[hl3.out];exact hq)
  have hp' : Hid (p<H3.sp.length):=Lib.hid (by rw[hl3.out];exact hp)
  clear hk hk' hA hrd4 hrt4 hgood4 hgood3 h3 s3' hx3 hard
  have hne:=Lib.hid hk2
  clear hk2
  cases hash:a.sh with
  | true=>
   rw[hash] at hcS
   have hq2:Hid (gM ⟨H.ma,e⟩ p q n=fB (eZ ⟨H.ma,e⟩ x.n 1) q n x):=Lib.hid (by
    unfold gM
    simp only[hgx.out]
    rw[if_neg hne.out,if_pos (by rw[hsh.out];exact hash)])
   have hx5:=NS hx4
   go_wp2_with (refine ay _ _ rfl w1.heap.size 0 rfl rfl _ hx5 _ Tryz.underlying89 rfl entry_size ?_)
   refine (jf H3 e3 n q x B b _ h4 hq'.out).mono ?_
   rintro r w6 ⟨rfl,hk6⟩
   go_wp2
   simp[bodyPost,results,go_sem,Tryz.results43]
   rw[hq2.out,←hq3.out]
   exact KR.trans s4 hk6
  | false=>
   rw[hash] at hcS
   have hq2:Hid (gM ⟨H.ma,e⟩ p q n=fB (fB (eZ ⟨H.ma,e⟩ x.n 1) p n ⟨x.k,x.n,false⟩) q n ⟨x.k,x.n,false⟩):=Lib.hid (by
    unfold gM
    simp only[hgx.out]
    rw[if_neg hne.out,if_neg (by rw[hsh.out,hash];decide)])
   go_wp2_with (refine aC rfl _ _ _ rfl w1.heap.size 2 _ [.bool false] rfl rfl rfl _ _ hx4 (by show 2+1≤3;decide) (by kernel_rfl) (fun u hu=>by cases List.mem_singleton.1 hu;rfl) ?_)
   intro w5 hb5 hg5
   have k5:=h4.boxE hx4 hN3.out hg5
   have s5:=s4.box hg5 hy2.out
   have hx5:aF w5 w1.heap.size (fI ⟨x.k,x.n,false⟩) 89:=hb5
   have hr5:=NS hx5
   clear hcA hcS hc4 h4 s4 hx4 hb5
   go_wp2_with (refine ay _ _ rfl w1.heap.size 0 rfl rfl _ hr5 _ Tryz.underlying89 rfl entry_size ?_)
   refine (jf H3 e3 n p ⟨x.k,x.n,false⟩ B b _ k5 hp'.out).mono ?_
   rintro r w6 ⟨rfl,H6,e6,h6,s6,q6⟩
   have hr6:=NS (s6.blk k5 hx5 entTy)
   have s6':=s5.trans s6
   have hq6:=Lib.hid q6
   have hl6:Hid (q<H6.sp.length):=Lib.hid (by
    have e1:=congrArg (fun k=>k.m.sp.length) q6
    have e2:=(lU ⟨H3.ma,e3⟩ p n ⟨x.k,x.n,false⟩).1
    rw[qf (e1.trans e2)]
    exact hq'.out)
   clear s6 q6 s5 k5 hx5 hr5
   go_wp2_with (refine ay _ _ rfl w1.heap.size 0 rfl rfl _ hr6 _ Tryz.underlying89 rfl entry_size ?_)
   refine (jf H6 e6 n q ⟨x.k,x.n,false⟩ B b _ h6 hl6.out).mono ?_
   rintro r w7 ⟨rfl,hk7⟩
   go_wp2
   simp[bodyPost,results,go_sem,Tryz.results43]
   rw[hq2.out,←hq3.out,←hq6.out]
   exact KR.trans s6' hk7
theorem Eu (k:Kp) (p:Nat) (n:Int):(jR k p n).m.sp.length=k.m.sp.length:=by
 unfold jR
 dsimp only
 split
 ·rw[(lU _ _ _ _).1,AB]
 ·split
  ·rw[(lU _ _ _ _).1]
   unfold nH
   split<;>rfl
  ·rfl
theorem Ay (k:Kp) (p:Nat) (a n:Int) (l:List Int) (j:Nat) (hj:j<l.length):fV k p a n (l.take (j+1))=if JD a n l[j]=true then jR (fV k p a n (l.take j)) p l[j] else fV k p a n (l.take j):=by
 unfold fV
 rw[List.take_add_one,List.foldl_append,List.getElem?_eq_getElem hj]
 rfl
theorem CO (H:MH) (e a n:Int) (p:Nat) (B b:Nat) (w:World) (h:jX w B b H e) (hp:p<H.sp.length) (ha:0≤a∧a≤64) :
  Calls Tryz.prog 63 #[.pointer (some ⟨b,0,none⟩),.int .i64 p,.int .i64 a,.int .i64 n] w fun r w'=>r = .returned (.tuple #[])∧KR w B b H w' (wD ⟨H.ma,e⟩ p a n):=by
 obtain⟨P,hP⟩:∃P,H.sp[p]?=some P:=⟨_,List.getElem?_eq_getElem hp⟩
 have hsp:Hid (wD ⟨H.ma,e⟩ p a n=fV ⟨H.ma,e⟩ p a n (aI P.tb)):=Lib.hid (by unfold wD;rw[jr hP];rfl)
 obtain⟨g,off,hap,hrd,hrt,hgood⟩:=h.at hP
 have hc:=h.blk.cell
 unfold qy at hc
 rw[hap] at hc
 have hpi:(p:Int)<(H.sp.length:Int):=by omega
 go_enter Tryz.func63,Tryz.ntmps63
 go_wp2_with (refine ay _ _ rfl g (off+p*10+2) rfl rfl _ hrt _ Tryz.underlying53 tab_agg tab_size ?_)
 refine (ny P.tb (iP P.ts) _ hgood.tb).mono ?_
 rintro r w1 ⟨v1,rfl,ho1,hb1⟩
 obtain⟨a2,c2,rfl,hle2,hmx2,hnl2,_⟩:=ho1.rd
 have hin:=Lib.hid (Bi P.tb)
 generalize aI P.tb=l at *
 have h1:=h.below hb1
 have s1:=(KS.refl w b H).below hb1
 clear hc hrd hrt hgood hap h hP hpi hnl2 hb1
 unfold maxLen at hmx2
 go_wp2
 go_loopw [21] (fun s21 wr => ∃(j:Nat) (Hj:MH) (ej:Int),j≤l.length∧s21 = .int .i64 j∧jX wr B b Hj ej∧KS w b H wr Hj∧Hid (Kp.mk Hj.ma ej=fV ⟨H.ma,e⟩ p a n (l.take j))∧Own wr w.heap.size 3 1 (.slice a2 l.length c2) l.length (l.map dL)∧Hj.sp.length=H.sp.length) (fun s21 _=>l.length-(intOf s21).toNat)
 case atStart=>exact⟨0,H,e,Nat.zero_le _,rfl,h1,s1,Lib.hid rfl,ho1,rfl⟩
 case round=>
  clear ho1 h1 s1
  obtain⟨j,Hj,ej,hj,rfl,hj3,sj3,qj,hoj,hlj⟩:=hrel
  by_cases hjl:j<l.length
  ·have hji:(j:Int)<(l.length:Int):=by omega
   obtain⟨_,_,e9,_,_,_,hrL⟩:=hoj.rd
   cases e9
   have hcj:=hrL j (dL l[j]) (by rw[List.getElem?_map,List.getElem?_eq_getElem hjl];rfl)
   obtain⟨bl,ol,rfl,hcj⟩:=hcj
   unfold dL at hcj
   have hi:=hin.out _ (List.getElem_mem hjl)
   have hstep:=Lib.hid (Ay ⟨H.ma,e⟩ p a n l j hjl)
   generalize l[j]=i at *
   have hpj:p<Hj.sp.length:=by rw[hlj];exact hp
   by_cases h1:a≤i
   ·by_cases h2:i-a<n
    ·have hq:Hid (fV ⟨H.ma,e⟩ p a n (l.take (j+1))=jR (fV ⟨H.ma,e⟩ p a n (l.take j)) p i):=Lib.hid (by rw[hstep.out];exact if_pos (by unfold JD;simp[h1,h2]))
     go_wp2_with fail
     refine (Gm Hj ej i p B b _ hj3 hpj).mono ?_
     rintro r w6 ⟨rfl,H6,e6,h6,s6,q6⟩
     have ho6:=s6.own hj3 hoj (by decide)
     have s06:=sj3.trans s6
     have hl6:H6.sp.length=H.sp.length:=by
      have e1:=congrArg (fun k=>k.m.sp.length) q6
      rw[qf (e1.trans (Eu ⟨Hj.ma,ej⟩ p i)),hlj]
     have hq6:Hid (Kp.mk H6.ma e6=fV ⟨H.ma,e⟩ p a n (l.take (j+1))):=Lib.hid (by rw[hq.out,←qj.out];exact q6)
     clear q6 s6 hj3 sj3 hoj qj hq hrL hcj
     go_wp2
     go_roundw
     case rel=>exact⟨j+1,H6,e6,by omega,by go_num,h6,s06,hq6,ho6,hl6⟩
     case measure=>simp[intOf];omega
    ·have hq6:Hid (Kp.mk Hj.ma ej=fV ⟨H.ma,e⟩ p a n (l.take (j+1))):=Lib.hid (by rw[hstep.out,if_neg (by unfold JD;simp[h2])];exact qj.out)
     clear qj hrL
     go_wp2
     go_roundw
     case rel=>exact⟨j+1,Hj,ej,by omega,by go_num,hj3,sj3,hq6,hoj,hlj⟩
     case measure=>simp[intOf];omega
   ·have hq6:Hid (Kp.mk Hj.ma ej=fV ⟨H.ma,e⟩ p a n (l.take (j+1))):=Lib.hid (by rw[hstep.out,if_neg (by unfold JD;simp[h1])];exact qj.out)
    clear qj hrL
    go_wp2
    go_roundw
    case rel=>exact⟨j+1,Hj,ej,by omega,by go_num,hj3,sj3,hq6,hoj,hlj⟩
    case measure=>simp[intOf];omega
  ·have hji:¬(j:Int)<(l.length:Int):=by omega
   rw[List.take_of_length_le (by omega)] at qj
   clear hoj
   go_wp2
   simp[bodyPost,results,go_sem,Tryz.results63]
   exact⟨_,_,hj3,sj3,qj.out.trans hsp.out.symm⟩
theorem GH (k:Kp) (p:Nat) (a n:Int) (l:List Int):(fV k p a n l).m.sp.length=k.m.sp.length:=by
 unfold fV
 induction l generalizing k with
 | nil=>rfl
 | cons i l ih=>
  rw[List.foldl_cons,ih]
  split
  ·exact Eu _ _ _
  ·rfl
def zPS:PS:=⟨false,none,0,[],nTs,zTb⟩
theorem jX.putP {w:World} {B b:Nat} {H:MH} {e:Int} (h:jX w B b H e) {p:Nat} (hp:p<H.sp.length) :
  ∃g off cur,H.ap=some ⟨g,off,none⟩∧B≤g∧aF w g cur 55∧off+p*10+10≤cur.size ∧
   ∀(w' : World) (P:PS),Own w B 99 7 (.slice P.aa P.ar.length P.ac) P.ar.length (P.ar.flatMap iE)→lc w B (iP P.ts) P.tb→ul P.tb→aF w' g (bC cur (off+p*10) (lg P)) 55→w.grownBy w' (some g)→jX w' B b { H with sp:=H.sp.set p P } e:=by
 obtain⟨g,off,cap,cur,hv,hB,hblk,hfit,hset⟩:=oZ ky (by decide) rfl h.ma.sp p hp
 simp only[Value.slice.injEq] at hv
 obtain⟨hap,_,hcp⟩:=hv
 refine⟨g,off,cur,hap,hB,hblk,by omega,fun w' P ha ht htz hb hg => ?_⟩
 have hlen:(H.sp.set p P).length=H.sp.length:=List.length_set
 have hbk:b≠g:=fun e=>by
  have h1:=h.blk
  subst e
  unfold aF at h1 hblk
  rw[h1] at hblk
  simp only[Option.some.injEq,Obj.cells.injEq] at hblk
  exact absurd hblk.2.1 (by decide)
 refine⟨?_,h.ge,⟨ak h.ma.fr hblk (by decide) hg,ak h.ma.sl hblk (by decide) hg,h.ma.sw.keep hblk (by decide) (by decide) hg,h.ma.dk.keep hblk (by decide) (by decide) hg,h.ma.st.keep hblk (by decide) (by decide) hg,ak h.ma.ca hblk (by decide) hg,?_,fun q hq => ?_,h.ma.c64⟩,fun q hq => ?_⟩
 ·have:qy { H with sp:=H.sp.set p P } e=qy H e:=by unfold qy;simp only[hlen]
  rw[this]
  exact h.blk.grown hg (fun e=>hbk (Option.some.inj e).symm)
 ·simp only[hlen]
  exact hset w' _ hb
 ·rcases List.mem_or_eq_of_mem_set hq with hq|rfl
  ·exact⟨ak (h.ma.ps q hq).1 hblk (by decide) hg,(h.ma.ps q hq).2.keep hblk (by decide) hg⟩
  ·exact⟨ak ha hblk (by decide) hg,ht.keep hblk (by decide) hg⟩
 ·rcases List.mem_or_eq_of_mem_set hq with hq|rfl
  ·exact h.tz q hq
  ·exact htz
theorem ES (H:MH) (p:Nat) (P:PS):MH.ma { H with sp:=H.sp.set p P }=iW H.ma p P.sp:=by
 unfold iW MH.ma
 simp only[List.map_set]
theorem vV {B:Nat} {w w1 w2:World} (h:Below B w w1) (k:Below B w1 w2):Below B w w2:=
 ⟨k.os.trans h.os,k.tape.trans h.tape,k.output.trans h.output,Nat.le_trans h.size k.size,fun i hi=>(k.block i hi).trans (h.block i hi)⟩
theorem machT:41≠96∧41≠81∧41≠106∧41≠55:=by decide
def ou (H:MH) (p:Int):Prop:=p<0∨(H.sp.length:Int)≤p∨(bP H.ma p.toNat).lv=false
def NR (H:MH) (p:Int) (w:World) (r:Ending) (w' : World):Prop:=
 Below w.heap.size w w'∧((ou H p∧r = .returned (.tuple #[.agg (bR noH),.int .i64 5]))∨(¬ou H p∧∃H' : MH,r = .returned (.tuple #[.agg (bR H'),.int .i64 0])∧qK w' w.heap.size H'∧Gone H.ma H'.ma p.toNat))
theorem IU (H:MH) (p:Int) (w:World) (h:rC w H) (hR:Rt H.ma) (hC:Co H.ma) :
  Calls Tryz.prog 29 #[.agg (bR H),.int .i64 p] w (NR H p w):=by
 have hR':=Lib.hid hR
 have hC':=Lib.hid hC
 clear hR hC
 go_enter Tryz.func29,Tryz.ntmps29
 go_upto_region 1 with (fail)
 refine mg (fun W=>Code.wp _ _ _ _ W) fun w1 hb1 bx1 rx1 hs1 => ?_
 have rx1:aF w1 (w.heap.size+1) (bR noH) 41:=rx1
 have h1:=h.below hb1
 clear h
 go_wp2_with (refine ay _ _ rfl w.heap.size 0 rfl rfl _ bx1.rd _ Tryz.underlying41 rfl machine_size ?_)
 refine (qD H _ h1).mono ?_
 rintro r w2 ⟨rfl,hb2⟩
 rw[Jr.2 hR'.out]
 have h2:=h1.below hb2
 have bx2:=bx1.ext hb2
 have rx2:=rx1.ext hb2
 have hbr2:=ae hb1 hb2
 clear h1 bx1 rx1 hb1 hb2 hs1
 have hc:=bx2.cell
 unfold bR at hc
 by_cases c1:p<0
 ·have hbad:Hid (ou H p):=Lib.hid (.inl c1)
  go_wp2_with (refine az rfl _ _ _ rfl (w.heap.size+1) (bR noH) rfl rfl _ _ rx2 rfl mach_size (fG noH) ?_)
  intro we hre hge
  have hbre:=hbr2.grown hge hbr2.size (fun k hk=>by cases hk;omega)
  go_wp2
  refine bodyPost_ret (v:=.tuple #[.agg (bR noH),.int .i64 5]) (fq Tryz.results29 _ _ (w.heap.size+1) _ _ _ _ rfl rfl hre Tryz.underlying41 rfl mach_size) rfl ?_
  exact⟨hbre,.inl ⟨hbad.out,rfl⟩⟩
 by_cases c2:(H.sp.length:Int)≤p
 ·have hbad:Hid (ou H p):=Lib.hid (.inr (.inl c2))
  go_wp2_with (refine az rfl _ _ _ rfl (w.heap.size+1) (bR noH) rfl rfl _ _ rx2 rfl mach_size (fG noH) ?_)
  intro we hre hge
  have hbre:=hbr2.grown hge hbr2.size (fun k hk=>by cases hk;omega)
  go_wp2
  refine bodyPost_ret (v:=.tuple #[.agg (bR noH),.int .i64 5]) (fq Tryz.results29 _ _ (w.heap.size+1) _ _ _ _ rfl rfl hre Tryz.underlying41 rfl mach_size) rfl ?_
  exact⟨hbre,.inl ⟨hbad.out,rfl⟩⟩
 obtain⟨P,hP⟩:∃P:Nat,p=P:=⟨p.toNat,by omega⟩
 subst hP
 have hpl:P<H.sp.length:=by omega
 obtain⟨gs,os,Q,haq,hQ,hrd⟩:=kL h2.sp.rd P hpl
 rw[haq] at hc
 have hlv:w2.cell? ⟨gs,os+P*10,none⟩=some (.bool Q.lv):=by
  obtain⟨b',o',e',hc'⟩:=hrd 0 _ rfl
  cases e'
  exact hc'
 have hsp:=Lib.hid (jr hQ)
 cases hlvQ:Q.lv with
 | false=>
  rw[hlvQ] at hlv
  have hbad:Hid (ou H (P:Int)):=Lib.hid (.inr (.inr (by rw[Int.toNat_natCast,hsp.out];exact hlvQ)))
  go_wp2_with (refine az rfl _ _ _ rfl (w.heap.size+1) (bR noH) rfl rfl _ _ rx2 rfl mach_size (fG noH) ?_)
  intro we hre hge
  have hbre:=hbr2.grown hge hbr2.size (fun k hk=>by cases hk;omega)
  go_wp2
  refine bodyPost_ret (v:=.tuple #[.agg (bR noH),.int .i64 5]) (fq Tryz.results29 _ _ (w.heap.size+1) _ _ _ _ rfl rfl hre Tryz.underlying41 rfl mach_size) rfl ?_
  exact⟨hbre,.inl ⟨hbad.out,rfl⟩⟩
 | true=>
  rw[hlvQ] at hlv
  have hnb:Hid (¬ou H (P:Int)):=Lib.hid (by
   rintro (e|e|e)
   ·exact c1 e
   ·exact c2 e
   ·rw[Int.toNat_natCast,hsp.out] at e;exact absurd (hlvQ.symm.trans e) (by decide))
  go_wp2_with (refine ay _ _ rfl w.heap.size 0 rfl rfl _ bx2.rd _ Tryz.underlying41 rfl machine_size ?_)
  refine (su H _ h2 (kX hR'.out)).mono ?_
  rintro r w3 ⟨H3,rfl,ho3,hma3,_,hb3⟩
  have hl3:Hid (H3.sp.length=H.sp.length):=Lib.hid (qf (by rw[hma3]))
  have hma:=Lib.hid hma3
  have rx3:=rx2.ext hb3
  have hbr3:=ae hbr2 hb3
  clear bx2 rx2 hc hlv hrd h2 haq hma3
  unfold bR
  go_upto_region 7 with (fail)
  refine fo (fun W=>Code.wp _ _ _ _ W) fun w4 hb4 kx4 hs4 => ?_
  have k4:jX w4 w.heap.size w3.heap.size H3 0:=⟨kx4,hbr3.size,(ho3.mono hbr2.size).below hb4,fun q hq=>(LX.spz (H:=H3) (by rw[hma.out];exact kX hR'.out) hq).2⟩
  have rx4:=rx3.ext hb4
  have hbr4:=ae hbr3 hb4
  clear hb3 hb4 ho3 hbr2 kx4 hs4 rx3
  go_wp2_with fail
  refine (CO H3 0 0 64 P _ _ _ k4 (by rw[hl3.out];exact hpl) (by omega)).mono ?_
  rintro r w5 ⟨rfl,H5,e5,k5,s5,q5⟩
  have hl5:Hid (H5.sp.length=H3.sp.length):=Lib.hid (by
   have e1:=congrArg (fun k=>k.m.sp.length) q5
   refine qf (e1.trans ?_)
   exact GH _ _ _ _ _)
  obtain⟨m',hm1,hG⟩:=La hR'.out hC'.out (p:=P) (by rw[qw];exact hpl)
  have hm2:Et H.ma P=⟨iW H5.ma P zSp,e5⟩:=by
   unfold Et
   rw[←hma.out,←q5]
  rw[hm2] at hm1
  obtain⟨rfl,rfl⟩:=Kp.mk.inj hm1
  have hG':=Lib.hid hG
  have rx5:=s5.blk k4 rx4 machT
  have hbr5:=vV hbr4 (s5.to k4 (Nat.le_refl _))
  have hp5:P<H5.sp.length:=by rw[hl5.out,hl3.out];exact hpl
  have hp5i:(P:Int)<(H5.sp.length:Int):=by omega
  clear hm1 hm2 hG q5 s5 k4 rx4 hbr4
  obtain⟨g,off,cur,hap,hBg,hblk,hfit,hset⟩:=k5.putP hp5
  have hc5:=k5.blk.cell
  unfold qy at hc5
  rw[hap] at hc5
  have rxl:=rx5.lt
  go_wp2_with (refine eX rfl _ _ _ rfl g (off+P*10) #[.bool false,.slice none 0 0,.slice none 0 0,.slice none 0 0,.slice none 0 0,.slice none 0 0,.slice none 0 0,.slice none 0 0,.slice none 0 0,.slice none 0 0] rfl rfl _ _ hblk hfit space_size (by simp[Value.oneCell']) ?_)
  intro w6 hb6 hg6
  have k6:=hset w6 zPS (Own.nil _ _ _ _) (oU _ _) (oz zTb_right) hb6 hg6
  have rx6:=bD rx5 hblk (by decide) hg6
  have hbr6:=hbr5.grown hg6 hbr5.size (fun k hk=>by cases hk;exact hBg)
  clear hc5 k5 rx5 hbr5 hb6 hg6 hset hblk hfit hap
  have hc6:=k6.blk.cell
  unfold qy at hc6
  go_wp2_with (first | (refine ay _ _ rfl w3.heap.size 0 rfl rfl (bR { H5 with sp:=H5.sp.set P zPS }).toList (bQ k6.blk 0 11) _ Tryz.underlying41 rfl machine_size ?_) | (refine az rfl _ _ _ rfl (w.heap.size+1) (bR { H5 with sp:=H5.sp.set P zPS }) rfl rfl _ _ rx6 rfl mach_size (fG _) ?_))
  intro w7 rx7 hg7
  have hbre:=hbr6.grown hg7 hbr6.size (fun k hk=>by cases hk;omega)
  have hme:=k6.ma.keep rx6 (by decide) hg7
  go_wp2
  refine bodyPost_ret (v:=.tuple #[.agg (bR { H5 with sp:=H5.sp.set P zPS }),.int .i64 0]) (fq Tryz.results29 _ _ (w.heap.size+1) _ _ _ _ rfl rfl rx7 Tryz.underlying41 rfl mach_size) rfl ?_
  exact⟨hbre,.inr ⟨hnb.out,_,rfl,hme,by rw[ES];exact hG'.out⟩⟩
def vN (P:PS):Bool:=!P.lv
theorem GD (P:PS) (w:World):Calls Tryz.prog 39 #[.agg (nA P)] w fun r w'=>r = .returned (.bool (vN P))∧Below w.heap.size w w':=by
 go_enter Tryz.func39,Tryz.ntmps39
 go_upto_region 1 with (fail)
 refine fo (fun W=>Code.wp _ _ _ _ W) fun W0 hb0 hx0 hs0 => ?_
 clear hs0
 have hcx:=hx0.cell
 have q0:(nA P)[0]?=some (.bool P.lv):=rfl
 go_wp2
 go_ret
 exact⟨rfl,hb0⟩
theorem Lh {w:World} {a:Option Addr} {l:List PS} (h:cZ w a (l.flatMap lg)) (k:Nat) (hk:k<l.length):∃b off,a=some ⟨b,off,none⟩∧cZ w (some ⟨b,off+k*10,none⟩) (lg l[k]):=gB ky (by decide) h k hk
theorem Ao (l:List PS) (a:Option Addr) (c:Nat) (w:World) (hrd:cZ w a (l.flatMap lg)) (hl:l.length≤9223372036854775807)  :
  Calls Tryz.prog 38 #[.slice a l.length c,.func (.func 39) #[] #[]] w fun e w'=>e = .returned (.int .i64 (idx vN l))∧Below w.heap.size w w':=by
 go_enter Tryz.func38,Tryz.ntmps38
 go_wp2
 go_loopw [8] (fun i wr => ∃k:Nat,k≤l.length∧i = .int .i64 k∧Below w.heap.size w wr∧∀i (h:i<l.length),i<k→vN l[i]=false) (fun i _=>l.length-(intOf i).toNat)
 case atStart=>exact⟨0,Nat.zero_le _,rfl,Below.refl _ _,fun i _ h=>absurd h (Nat.not_lt_zero _)⟩
 case round=>
  obtain⟨k,hk,rfl,hbr,hp0⟩:=hrel
  have hp:=Lib.hid hp0
  clear hp0
  by_cases hlt:k<l.length
  ·obtain⟨b,off,rfl,hel⟩:=Lh (hrd.below hbr) k hlt
   go_wp2_with (refine ay _ _ rfl b (off+k*10) rfl rfl _ hel _ Tryz.underlying55 rfl space_size ?_)
   refine (GD l[k] _).mono ?_
   rintro e w2 ⟨rfl,hb2⟩
   have hbel2:=ae hbr hb2
   clear hb2
   cases hpk:vN l[k]
   ·have hpk':=Lib.hid hpk
    clear hpk
    go_wp2
    go_roundw
    case rel=>exact⟨k+1,by omega,by go_num,hbel2,jJ hp.out hlt hpk'.out⟩
    case measure=>simp[intOf];omega
   ·have hfin:=Lib.hid (uh vN l k hlt hp.out hpk)
    clear hpk
    go_wp2
    go_ret
    exact⟨aS hfin.out.symm,hbel2⟩
  ·have hfin:=Lib.hid (lM vN l fun i h=>hp.out i h (by omega))
   go_wp2
   go_ret
   exact⟨aS hfin.out.symm,hbr⟩
theorem IA (H:MH):idx vN H.sp=Ca H.ma:=by
 unfold Ca idx MH.ma
 rw[List.findIdx?_map]
 rfl
theorem jX.appP {w w1 w2:World} {B b:Nat} {H:MH} {e:Int} (h:jX w B b H e) (hg:w.grownBy w1 (Value.slice H.ap H.sp.length H.cp).ownBlock) {a:Option Addr} {c:Nat} {l:List PS} (ho:Own w1 B 55 10 (.slice a l.length c) l.length (l.flatMap lg))
  (hp:∀p∈l,Own w1 B 99 7 (.slice p.aa p.ar.length p.ac) p.ar.length (p.ar.flatMap iE)∧lc w1 B (iP p.ts) p.tb) (htz:∀p∈l,ul p.tb) (hb:aF w2 b (bC (qy H e) 10 [.slice a l.length c]) 96) (hg2:w1.grownBy w2 (some b)) :
  jX w2 B b { H with ap:=a,cp:=c,sp:=l } e:=by
 have m:=h.ma
 have key:aF w1 b (qy H e) 96∧Own w1 B 81 13 (.slice H.af H.m.fs.length H.cf) H.m.fs.length (H.m.fs.flatMap nE)∧Own w1 B 3 1 (.slice H.asl H.sl.length H.csl) H.sl.length (H.sl.map dL) ∧
   jc w1 B (.slice H.wb H.sw.blocks.length H.cwb) (.slice H.wq H.sw.queue.length H.cwq) H.sw∧jc w1 B (.slice H.db H.dk.blocks.length H.cdb) (.slice H.dq H.dk.queue.length H.cdq) H.dk∧rA w1 B (.slice H.ai H.fi.length H.ci) H.fi ∧
   Own w1 B 106 3 (.slice H.ac H.ca.length H.cc) H.ca.length (H.ca.flatMap kS):=by
  rcases zN m.sp hg with h1|⟨g,cs,hk,_,hg'⟩
  ·have hb0:=fO h1
   have k:=m.below hb0
   exact⟨h.blk.ext hb0,k.fr,k.sl,k.sw,k.dk,k.st,k.ca⟩
  ·exact⟨bD h.blk hk (by decide) hg',ak m.fr hk (by decide) hg',ak m.sl hk (by decide) hg',m.sw.keep hk (by decide) (by decide) hg',m.dk.keep hk (by decide) (by decide) hg',m.st.keep hk (by decide) (by decide) hg',ak m.ca hk (by decide) hg'⟩
 obtain⟨k0,k1,k2,k3,k4,k5,k6⟩:=key
 exact⟨hb,h.ge,⟨ak k1 k0 (by decide) hg2,ak k2 k0 (by decide) hg2,k3.keep k0 (by decide) (by decide) hg2,k4.keep k0 (by decide) (by decide) hg2,k5.keep k0 (by decide) (by decide) hg2,ak k6 k0 (by decide) hg2,ak ho k0 (by decide) hg2,fun p hpm=>⟨ak (hp p hpm).1 k0 (by decide) hg2,(hp p hpm).2.keep k0 (by decide) hg2⟩,m.c64⟩,htz⟩
theorem Hm (k:Kp) (p q:Nat) (n:Int):(gM k p q n).m.sp.length=k.m.sp.length∧∀j,(bP (gM k p q n).m j).ar=(bP k.m j).ar:=by
 unfold gM
 dsimp only
 have hh:∀f n,(eZ k f n).m.sp.length=k.m.sp.length∧∀j,(bP (eZ k f n).m j).ar=(bP k.m j).ar:=fun f n=>by
  unfold bP
  rw[AB]
  exact⟨rfl,fun _=>rfl⟩
 split
 ·split
  ·exact⟨rfl,fun _=>rfl⟩
  ·exact lU _ _ _ _
 ·split
  ·have h1:=lU (eZ k (ent k.m p n).n 1) q n (ent k.m p n)
   have h2:=hh (ent k.m p n).n 1
   exact⟨h1.1.trans h2.1,fun j=>(h1.2 j).trans (h2.2 j)⟩
  ·have h1:=lU (fB (eZ k (ent k.m p n).n 1) p n ⟨(ent k.m p n).k,(ent k.m p n).n,false⟩) q n ⟨(ent k.m p n).k,(ent k.m p n).n,false⟩
   have h3:=lU (eZ k (ent k.m p n).n 1) p n ⟨(ent k.m p n).k,(ent k.m p n).n,false⟩
   have h2:=hh (ent k.m p n).n 1
   exact⟨h1.1.trans (h3.1.trans h2.1),fun j=>(h1.2 j).trans ((h3.2 j).trans (h2.2 j))⟩
theorem EU (p q:Nat) (l:List Int) (k:Kp):(ja k p q l).m.sp.length=k.m.sp.length∧∀j,(bP (ja k p q l).m j).ar=(bP k.m j).ar:=by
 unfold ja
 induction l generalizing k with
 | nil=>exact⟨rfl,fun _=>rfl⟩
 | cons i l ih=>
  rw[List.foldl_cons]
  have h1:=ih (gM k p q i)
  have h2:=Hm k p q i
  exact⟨h1.1.trans h2.1,fun j=>(h1.2 j).trans (h2.2 j)⟩
theorem BS (k:Kp) (p q:Nat) (l:List Int) (j:Nat) (hj:j<l.length):ja k p q (l.take (j+1))=gM (ja k p q (l.take j)) p q l[j]:=by
 unfold ja
 rw[List.take_add_one,List.foldl_append,List.getElem?_eq_getElem hj]
 rfl
def Oi (B:Nat) (l:List Ar):iO:=⟨fun v w => ∃a c,v = .agg #[.bool true,.slice a l.length c,.slice none 0 0,.slice none 0 0,.slice none 0 0,.slice none 0 0,.slice none 0 0,.slice none 0 0,.slice none 0 0,.slice none 0 0]∧Own w B 99 7 (.slice a l.length c) l.length (l.flatMap iE),
 fun _ _ _ hb ⟨a,c,h1,h2⟩=>⟨a,c,h1,h2.below hb⟩⟩
def MJ (m:Ma) (q:Nat):Prop:=q=m.sp.length∧m.sp.length<4∨q<m.sp.length∧(bP m q).lv=false
def Ot (H:MH) (p:Int) (w:World) (r:Ending) (w' : World):Prop:=
 Below w.heap.size w w'∧((ou H p∧r = .returned (.tuple #[.agg (bR noH),.int .i64 0,.int .i64 5]))∨(¬ou H p∧Ca H.ma<0∧H.sp.length=4∧r = .returned (.tuple #[.agg (bR noH),.int .i64 0,.int .i64 4])) ∨
  (¬ou H p∧∃(H' : MH) (q:Nat),MJ H.ma q∧r = .returned (.tuple #[.agg (bR H'),.int .i64 q,.int .i64 0])∧qK w' w.heap.size H'∧Forked H.ma H'.ma p.toNat q))
theorem Bo (H:MH) (p:Int) (w:World) (h:rC w H) (hR:Rt H.ma) (hC:Co H.ma) :
  Calls Tryz.prog 11 #[.agg (bR H),.int .i64 p] w (Ot H p w):=by
 have hR':=Lib.hid hR
 have hC':=Lib.hid hC
 clear hR hC
 go_enter Tryz.func11,Tryz.ntmps11
 go_upto_region 1 with (fail)
 refine mg (fun W=>Code.wp _ _ _ _ W) fun w1 hb1 bx1 rx1 hs1 => ?_
 have rx1:aF w1 (w.heap.size+1) (bR noH) 41:=rx1
 have h1:=h.below hb1
 clear h
 go_wp2_with (refine ay _ _ rfl w.heap.size 0 rfl rfl _ bx1.rd _ Tryz.underlying41 rfl machine_size ?_)
 refine (qD H _ h1).mono ?_
 rintro r w2 ⟨rfl,hb2⟩
 rw[Jr.2 hR'.out]
 have h2:=h1.below hb2
 have bx2:=bx1.ext hb2
 have rx2:=rx1.ext hb2
 have hbr2:=ae hb1 hb2
 clear h1 bx1 rx1 hb1 hb2 hs1
 have hc:=bx2.cell
 unfold bR at hc
 by_cases c1:p<0
 ·have hbad:Hid (ou H p):=Lib.hid (.inl c1)
  go_wp2_with (refine az rfl _ _ _ rfl (w.heap.size+1) (bR noH) rfl rfl _ _ rx2 rfl mach_size (fG noH) ?_)
  intro we hre hge
  have hbre:=hbr2.grown hge hbr2.size (fun k hk=>by cases hk;omega)
  go_wp2
  refine bodyPost_ret (v:=.tuple #[.agg (bR noH),.int .i64 0,.int .i64 5]) (dP Tryz.results11 _ _ (w.heap.size+1) _ _ _ _ _ rfl rfl rfl hre Tryz.underlying41 rfl mach_size) rfl ?_
  exact⟨hbre,.inl ⟨hbad.out,rfl⟩⟩
 by_cases c2:(H.sp.length:Int)≤p
 ·have hbad:Hid (ou H p):=Lib.hid (.inr (.inl c2))
  go_wp2_with (refine az rfl _ _ _ rfl (w.heap.size+1) (bR noH) rfl rfl _ _ rx2 rfl mach_size (fG noH) ?_)
  intro we hre hge
  have hbre:=hbr2.grown hge hbr2.size (fun k hk=>by cases hk;omega)
  go_wp2
  refine bodyPost_ret (v:=.tuple #[.agg (bR noH),.int .i64 0,.int .i64 5]) (dP Tryz.results11 _ _ (w.heap.size+1) _ _ _ _ _ rfl rfl rfl hre Tryz.underlying41 rfl mach_size) rfl ?_
  exact⟨hbre,.inl ⟨hbad.out,rfl⟩⟩
 obtain⟨P,hP⟩:∃P:Nat,p=P:=⟨p.toNat,by omega⟩
 subst hP
 have hpl:P<H.sp.length:=by omega
 obtain⟨gs,os,Q,haq,hQ,hrd⟩:=kL h2.sp.rd P hpl
 rw[haq] at hc
 have hlv:w2.cell? ⟨gs,os+P*10,none⟩=some (.bool Q.lv):=by
  obtain⟨b',o',e',hc'⟩:=hrd 0 _ rfl
  cases e'
  exact hc'
 have hsp:=Lib.hid (jr hQ)
 cases hlvQ:Q.lv with
 | false=>
  rw[hlvQ] at hlv
  have hbad:Hid (ou H (P:Int)):=Lib.hid (.inr (.inr (by rw[Int.toNat_natCast,hsp.out];exact hlvQ)))
  go_wp2_with (refine az rfl _ _ _ rfl (w.heap.size+1) (bR noH) rfl rfl _ _ rx2 rfl mach_size (fG noH) ?_)
  intro we hre hge
  have hbre:=hbr2.grown hge hbr2.size (fun k hk=>by cases hk;omega)
  go_wp2
  refine bodyPost_ret (v:=.tuple #[.agg (bR noH),.int .i64 0,.int .i64 5]) (dP Tryz.results11 _ _ (w.heap.size+1) _ _ _ _ _ rfl rfl rfl hre Tryz.underlying41 rfl mach_size) rfl ?_
  exact⟨hbre,.inl ⟨hbad.out,rfl⟩⟩
 | true=>
  rw[hlvQ] at hlv
  have hnb:Hid (¬ou H (P:Int)):=Lib.hid (by
   rintro (e|e|e)
   ·exact c1 e
   ·exact c2 e
   ·rw[Int.toNat_natCast,hsp.out] at e;exact absurd (hlvQ.symm.trans e) (by decide))
  have hsr:=h2.sp
  rw[haq] at hsr
  have h4:Hid (H.sp.length≤4):=Lib.hid (by have:=hR'.out.pt.spl;rw[qw] at this;exact this)
  go_wp2_with fail
  refine (Ao H.sp (some ⟨gs,os,none⟩) H.cp _ hsr.rd (by have:=h4.out;omega)).mono ?_
  rintro r w2' ⟨rfl,hbd⟩
  rw[IA]
  have h2':=h2.below hbd
  have bx2':=bx2.ext hbd
  have rx2':=rx2.ext hbd
  have hbr2':=ae hbr2 hbd
  clear hc hlv hrd h2 haq hsr bx2 rx2 hbr2 hbd
  have hc:=bx2'.cell
  unfold bR at hc
  generalize hdI:Ca H.ma=d
  have hd':=Lib.hid hdI
  clear hdI
  by_cases d0:d<0∧H.sp.length=4
  ·obtain⟨d1,d2⟩:=d0
   have hbr2:=hbr2'
   have rx2:=rx2'
   rw[d2] at hc
   go_wp2_with (refine az rfl _ _ _ rfl (w.heap.size+1) (bR noH) rfl rfl _ _ rx2 rfl mach_size (fG noH) ?_)
   intro we hre hge
   have hbre:=hbr2.grown hge hbr2.size (fun k hk=>by cases hk;omega)
   go_wp2
   refine bodyPost_ret (v:=.tuple #[.agg (bR noH),.int .i64 0,.int .i64 4]) (dP Tryz.results11 _ _ (w.heap.size+1) _ _ _ _ _ rfl rfl rfl hre Tryz.underlying41 rfl mach_size) rfl ?_
   exact⟨hbre,.inr (.inl ⟨hnb.out,by rw[hd'.out];exact d1,d2,rfl⟩)⟩
  have hdl:Hid (¬(d<0∧H.sp.length=4)):=Lib.hid d0
  have hdq:Hid (0≤d→∃k:Nat,d=k∧k<H.sp.length∧(bP H.ma k).lv=false):=Lib.hid (fun hd0=>by
   obtain⟨k,hk,hkl,hkv⟩:=zl (q:=fun s:Sp => !s.lv) (l:=H.ma.sp) (by show 0≤Ca H.ma;rw[hd'.out];exact hd0)
   refine⟨k,hd'.out.symm.trans hk,by rw[qw] at hkl;exact hkl,?_⟩
   unfold bP
   rw[List.getD_eq_getElem?_getD,List.getElem?_eq_getElem hkl]
   simpa using hkv)
  go_upto_region 7 with (fail)
  go_cut [47] (fun s47 wx=>s47 = .bool false∧wx=w2')
  case first=>
   by_cases d1:d<0
   ·have hl4:¬(H.sp.length:Int)=4:=fun e=>hdl.out ⟨d1,by omega⟩
    go_wp2
    go_meet
    case rel=>exact⟨by simp[hl4],rfl⟩
   ·go_wp2
    go_meet
    case rel=>exact⟨rfl,rfl⟩
  case rest=>
   obtain⟨rfl,hwc⟩:=hcut
   subst hwc
   clear hc
   go_wp2_with (refine ay _ _ rfl w.heap.size 0 rfl rfl _ bx2'.rd _ Tryz.underlying41 rfl machine_size ?_)
   refine (su H _ h2' (kX hR'.out)).mono ?_
   rintro r w3 ⟨H3,rfl,ho3,hma3,_,hb3⟩
   have hl3:Hid (H3.sp.length=H.sp.length):=Lib.hid (qf (by rw[hma3]))
   have hma:=Lib.hid hma3
   have rx3:=rx2'.ext hb3
   have hbr3:=ae hbr2' hb3
   clear bx2' rx2' h2' hma3
   unfold bR
   go_upto_if 54 with (fail)
   refine fo (fun W=>Code.wp _ _ _ _ W) fun w4 hb4 kx4 hs4 => ?_
   have k4:jX w4 w.heap.size w3.heap.size H3 0:=⟨kx4,hbr3.size,(ho3.mono hbr2'.size).below hb4,fun q hq=>(LX.spz (H:=H3) (by rw[hma.out];exact kX hR'.out) hq).2⟩
   have rx4:=rx3.ext hb4
   have hbr4:=ae hbr3 hb4
   obtain⟨b,hbdef⟩:∃b,w3.heap.size=b:=⟨_,rfl⟩
   rw[hbdef] at k4 ⊢
   clear hb3 hb4 ho3 hbr2' kx4 hs4 rx3 hbr3 hbdef
   go_cut [8] (fun s8 wx => ∃(q:Nat) (HX:MH),s8 = .int .i64 q∧jX wx w.heap.size b HX 0∧aF wx (w.heap.size+1) (bR noH) 41∧Below w.heap.size w wx∧Hid (q<HX.sp.length∧HX.sp.length≤4∧P≠q∧(∃Q',HX.sp[P]?=some Q'∧Q'.sp=bP H.ma P)∧iW HX.ma q ⟨true,(bP H.ma P).ar,zTb⟩=dV H.ma P q∧MJ H.ma q))
   case first=>
    by_cases d1:d<0
    ·have hl4:Hid (H3.sp.length=H.sp.length∧H.sp.length<4):=Lib.hid ⟨hl3.out,by
      have:=h4.out
      have h5:¬H.sp.length=4:=fun e=>hdl.out ⟨d1,e⟩
      omega⟩
     have hc4:=k4.blk.cell
     unfold qy at hc4
     have hownP:=k4.ma.sp
     go_wp2_with (at_builtin;go_must (refine jm rfl _ _ 39 rfl w.heap.size 55 _ 10 224 Tryz.underlying39 space_info rfl (by decide) _ H3.sp.length (H3.sp.flatMap lg) rfl (hownP.alloc _) (some ⟨w4.heap.size,0,none⟩) 1 1 (lg zPS) rfl (fun h=>(by cases h)) (Nat.le_refl _) rfl (cZ.new _ (nA zPS) _) (bv (by simp[nA,zPS,nTs,Value.oneCell'])) (by have:=hl4.out;unfold maxLen;omega) (by have:=hl4.out;omega) (dz hbr4.size _) ?_))
     intro v2 wa own2 hg2 hsn2
     have hal:=(Below.refl w4.heap.size w4).alloc (Nat.le_refl _) (.cells (nA zPS) 55)
     have k4a:=k4.below hal
     have hownP1:Own (w4.alloc (.cells (nA zPS) 55)) w.heap.size 55 10 (.slice H3.ap H3.sp.length H3.cp) H3.sp.length (H3.sp.flatMap lg):=k4a.ma.sp
     have hbk2:=nk hownP1 hg2 k4a.blk (by decide)
     have rxa:=nk hownP1 hg2 (rx4.ext hal) (by decide)
     have hps2:∀p∈H3.sp++[zPS],Own wa w.heap.size 99 7 (.slice p.aa p.ar.length p.ac) p.ar.length (p.ar.flatMap iE)∧lc wa w.heap.size (iP p.ts) p.tb:=fun p hp=>by
      rcases List.mem_append.1 hp with hp|hp
      ·exact⟨eQ hownP1 hg2 (k4a.ma.ps p hp).1 (by decide),rQ hownP1 hg2 (k4a.ma.ps p hp).2⟩
      ·rw[List.mem_singleton.1 hp]
       exact⟨Own.nil _ _ _ _,oU _ _⟩
     have htz2:∀p∈H3.sp++[zPS],ul p.tb:=fun p hp=>by
      rcases List.mem_append.1 hp with hp|hp
      ·exact k4a.tz p hp
      ·rw[List.mem_singleton.1 hp]
       exact oz zTb_right
     have hbra:Below w.heap.size w wa:=(ae hbr4 hal).grown hg2 (ae hbr4 hal).size (fun k hk=>hownP1.ge k hk)
     obtain⟨a2,c2,rfl,_⟩:=own2.rd
     have hlen2:(H3.sp++[zPS]).length=H3.sp.length+1:=by simp
     have own2' : Own wa w.heap.size 55 10 (.slice a2 (H3.sp++[zPS]).length c2) (H3.sp++[zPS]).length ((H3.sp++[zPS]).flatMap lg):=by
      rw[hlen2,List.flatMap_append]
      simpa using own2
     clear hc4 hownP own2 hal rx4 hbr4
     go_wp2_with (refine aC rfl _ _ _ rfl b 10 _ [.slice a2 (H3.sp.length+1) c2] rfl rfl rfl _ _ hbk2 (by show 10+1≤12;omega) (by kernel_rfl) (fun u hu=>by cases List.mem_singleton.1 hu;rfl) ?_)
     intro w5 hb5 hg5
     have k5:=k4a.appP hg2 own2' hps2 htz2 (by rw[hlen2];exact hb5) hg5
     have rx5:=bD rxa hbk2 (by decide) hg5
     have hbr5:=hbra.grown hg5 hbra.size (fun k hk=>by cases hk;exact k4.ge)
     clear hb5 hg5 hbk2 rxa hbra hps2 htz2 own2' hownP1 hg2 hsn2 k4 k4a
     go_wp2
     go_meet
     case rel=>
      have hz:=hl4.out
      have hm:=hma.out
      refine⟨H3.sp.length,_,rfl,k5,rx5,hbr5,Lib.hid ⟨by simp,by simp;omega,by omega,?_,?_,.inl ⟨by rw[qw];omega,by rw[qw];omega⟩⟩⟩
      ·have hp3:P<H3.sp.length:=by omega
       refine⟨H3.sp[P],by rw[List.getElem?_append_left hp3];exact List.getElem?_eq_getElem hp3,?_⟩
       rw[←hm]
       exact (jr (List.getElem?_eq_getElem hp3)).symm
      ·unfold dV
       rw[if_pos (by rw[qw];exact hz.1),←hm]
       unfold iW MH.ma
       simp[List.map_append,List.set_append_right]
    ·obtain⟨k,rfl,hk1,hk2⟩:=hdq.out (by omega)
     have hk':=Lib.hid (And.intro hk1 hk2)
     clear hk1 hk2
     go_wp2
     go_meet
     case rel=>
      have hz:=hk'.out
      have hm:=hma.out
      have hp3:P<H3.sp.length:=by rw[hl3.out];exact hpl
      refine⟨k,H3,rfl,k4,rx4,hbr4,Lib.hid ⟨by rw[hl3.out];exact hz.1,by rw[hl3.out];exact h4.out,fun e => ?_,⟨H3.sp[P],List.getElem?_eq_getElem hp3,?_⟩,?_,.inr ⟨by rw[qw];exact hz.1,hz.2⟩⟩⟩
      ·have h9:=hz.2
       rw[←e,hsp.out] at h9
       exact absurd (hlvQ.symm.trans h9) (by decide)
      ·rw[←hm]
       exact (jr (List.getElem?_eq_getElem hp3)).symm
      ·unfold dV
       rw[if_neg (by rw[qw];omega),hm]
   case rest=>
    obtain⟨q,HX,rfl,kx,rx,hbx,hf⟩:=hcut
    clear k4 rx4 hbr4
    obtain⟨hq1,hx4,hPq,⟨Q',hQ',hQs⟩,hset0,hnq⟩:=hf.out
    clear hf
    have hset':=Lib.hid hset0
    have hnq':=Lib.hid hnq
    have hQs':=Lib.hid hQs
    clear hset0 hnq hQs
    obtain⟨g,off,cur,hap,hBg,hblk,hfit,hput⟩:=kx.putP hq1
    have hP1:=(List.getElem?_eq_some_iff.1 hQ').1
    have hP1i:(P:Int)<(HX.sp.length:Int):=by omega
    have hq1i:(q:Int)<(HX.sp.length:Int):=by omega
    have hcA:∀W,Below wc.heap.size wc W→W.cell? ⟨g,off+P*10+1,none⟩=some (.slice Q'.aa Q'.ar.length Q'.ac):=fun W hb=>by
     obtain⟨g',off',hap',hrd,_,_⟩:=(kx.below hb).at hQ'
     rw[hap] at hap'
     cases hap'
     obtain⟨b',o',e',hc'⟩:=hrd 1 _ rfl
     cases e'
     exact hc'
    have hA:=((kx.ma.rd.ps Q' (List.mem_of_getElem? hQ'))).ars
    have hA40:Q'.ar.length*40≤140737488355328:=by
     have h9:=(fe.1 (hR'.out.pt.ar _ (rF (m:=H.ma) (p:=P) (by rw[qw];exact hpl)))).1
     rw[←hQs'.out] at h9
     have:Q'.sp.ar.length=Q'.ar.length:=rfl
     omega
    go_upto_region 13 with (fail)
    refine aG 18 [_,_,_,_,_,_,_,_,_,_,_,_,_,_,_,.r 15 ((il wc.heap.size 99 7 Q'.ar.length (Q'.ar.flatMap iE))),.r 16 ((Oi wc.heap.size Q'.ar)),_] (Gk rfl (Gk rfl (Gf b 0 rfl rfl (Gf b 10 rfl rfl (Gl kx.blk (V:=.slice (some ⟨g,off,none⟩) HX.sp.length HX.cp) (by simp[qy,hap]) rfl rfl rfl rfl (Gk rfl (Gk rfl (Gk rfl (Gf b 0 rfl rfl (Gf b 10 rfl rfl (Gl kx.blk (V:=.slice (some ⟨g,off,none⟩) HX.sp.length HX.cp) (by simp[qy,hap]) rfl rfl rfl rfl (Gk rfl (Gr (.pointer (some ⟨g,off+P*10,none⟩)) (fun ρ y W hb hKn=>(aU rfl (aA rfl hKn) (aA rfl hKn) hP1 Tryz.underlying39 space_size)) rfl rfl (Gf g (off+P*10+1) rfl rfl (Gc (.slice Q'.aa Q'.ar.length Q'.ac) (fun W hb=>by simp[hcA _ hb]) rfl rfl rfl rfl (ag ?_ (ag ?_ (Gr (.pointer (some ⟨g,off+q*10,none⟩)) (fun ρ y W hb hKn=>(aU rfl (aA rfl hKn) (aA rfl hKn) hq1 Tryz.underlying39 space_size)) rfl rfl (aB))))))))))))))))))) (fun _=>rfl) rfl ?_
    ·intro ρ y W hw hn hb hd;have E87:=hw 87 14 rfl;have h14:y 14=_:=hd 14 rfl
     have EF:∀f,ρ (.func f) = .func (.func f) #[] #[]:=fun f=>hn (.func f) trivial
     refine aJ _ _ (ah rfl) (aK rfl (EF _) Tryz.func41 (by kernel_rfl) (by kernel_rfl) (by simp only[List.map_toArray,List.map_cons,List.map_nil,E87,h14,EF];rfl)) ?_
     refine (uC Q'.ar Q'.aa Q'.ac W hA.le hA.nl (hA.below hb).rd hA40).mono ?_
     rintro e w1 ⟨u,rfl,ho,hb1⟩
     exact⟨_,rfl,hb1,ho.mono hb.size⟩
    ·intro ρ y W hw hn hb hd;have E88:=hw 88 15 rfl;have h15:=hd 15 rfl
     obtain⟨ua,uc,hu,_⟩:=Own.rd h15
     have h15o:Own W wc.heap.size 99 7 (y 15) Q'.ar.length (Q'.ar.flatMap iE):=h15
     rw[hu] at h15o
     refine aj (.agg #[.bool true,.slice ua Q'.ar.length uc,.slice none 0 0,.slice none 0 0,.slice none 0 0,.slice none 0 0,.slice none 0 0,.slice none 0 0,.slice none 0 0,.slice none 0 0]) (ah rfl) (by simp[execOp,go_sem,E88,hu,hn (.const _) trivial,Act.eval]) ?_
     exact⟨ua,uc,rfl,h15o⟩
    intro y W5 hbW5 hRW5
    have hy15:((il wc.heap.size 99 7 Q'.ar.length (Q'.ar.flatMap iE))).r (y 15) W5:=hRW5 15 (by decide)
    have hy16:((Oi wc.heap.size Q'.ar)).r (y 16) W5:=hRW5 16 (by decide)
    clear hRW5
    obtain⟨ua,uc,e16,ho5⟩:=hy16
    simp only[e16]
    clear e16 hy15
    have hblk5:=hblk.ext hbW5
    go_wp2_with (refine eX rfl _ _ _ rfl g (off+q*10) #[.bool true,.slice ua Q'.ar.length uc,.slice none 0 0,.slice none 0 0,.slice none 0 0,.slice none 0 0,.slice none 0 0,.slice none 0 0,.slice none 0 0,.slice none 0 0] rfl rfl _ _ hblk5 hfit space_size (by simp[Value.oneCell']) ?_)
    intro w6 hb6 hg6
    obtain⟨g',off',cur',hap',_,hblk',_,hput'⟩:=(kx.below hbW5).putP hq1
    rw[hap] at hap'
    cases hap'
    have hcur:cur' = cur:=by
     unfold aF at hblk' hblk5
     rw[hblk'] at hblk5
     simpa using hblk5
    subst hcur
    have k6:=hput' w6 ⟨true,ua,uc,Q'.ar,nTs,zTb⟩ (ho5.mono hbx.size) (oU _ _) (oz zTb_right) hb6 hg6
    have rx6:=bD (rx.ext hbW5) hblk5 (by decide) hg6
    have hbr6:=(ae hbx hbW5).grown hg6 (ae hbx hbW5).size (fun k hk=>by cases hk;exact hBg)
    have hQ6:(HX.sp.set q ⟨true,ua,uc,Q'.ar,nTs,zTb⟩)[P]?=some Q':=by rw[List.getElem?_set_ne (fun e=>hPq e.symm)];exact hQ'
    have hm6:Hid (MH.ma { HX with sp:=HX.sp.set q ⟨true,ua,uc,Q'.ar,nTs,zTb⟩ }=dV H.ma P q):=Lib.hid (by
     rw[ES,←hset'.out,←hQs'.out]
     rfl)
    have hl6:Hid ((HX.sp.set q ⟨true,ua,uc,Q'.ar,nTs,zTb⟩).length=HX.sp.length):=Lib.hid List.length_set
    clear hcA hap hblk hfit hput hput' hblk' hblk5 hb6 hg6 ho5 kx rx hbx hbW5 hA hA40 hQ' hBg
    have hS:∃HS:MH,HS = { HX with sp:=HX.sp.set q ⟨true,ua,uc,Q'.ar,nTs,zTb⟩ }:=⟨_,rfl⟩
    obtain⟨HS,hHS⟩:=hS
    rw[←hHS] at k6 hm6
    have hQ6:HS.sp[P]?=some Q':=by rw[hHS];exact hQ6
    have hlS:Hid (HS.sp.length=HX.sp.length):=Lib.hid (by rw[hHS];exact hl6.out)
    clear hHS hl6
    have hq2:q<HS.sp.length:=by rw[hlS.out];exact hq1
    have hP2:P<HS.sp.length:=by rw[hlS.out];exact hP1
    have hP2i:(P:Int)<(HS.sp.length:Int):=by omega
    obtain⟨g6,off6,hap6,hrd6,hrt6,hgood6⟩:=k6.at hQ6
    have hc6:=k6.blk.cell
    unfold qy at hc6
    rw[hap6] at hc6
    go_wp2_with (refine ay _ _ rfl g6 (off6+P*10+2) rfl rfl _ hrt6 _ Tryz.underlying53 tab_agg tab_size ?_)
    refine (ny Q'.tb (iP Q'.ts) _ hgood6.tb).mono ?_
    rintro r w7 ⟨v7,rfl,ho7,hb7⟩
    obtain⟨a7,c7,rfl,_,hmx7,_,_⟩:=ho7.rd
    have hin:=Lib.hid (fun n (hn:n∈aI Q'.tb)=>(gW.1 hn))
    have hfk:Hid (Ko H.ma P q=ja ⟨dV H.ma P q,0⟩ P q (aI Q'.tb)):=Lib.hid (by unfold Ko;rw[←hQs'.out];rfl)
    generalize aI Q'.tb=l at *
    have k7:=k6.below hb7
    have s7:=(KS.refl w6 b HS).below hb7
    unfold maxLen at hmx7
    clear hc6 hrd6 hrt6 hgood6 hap6 hb7
    go_wp2
    go_loopw [102] (fun s102 wr => ∃(j:Nat) (Hj:MH) (ej:Int),j≤l.length∧s102 = .int .i64 j∧jX wr w.heap.size b Hj ej∧KS w6 b HS wr Hj∧Hid (Kp.mk Hj.ma ej=ja ⟨dV H.ma P q,0⟩ P q (l.take j))∧Own wr w6.heap.size 3 1 (.slice a7 l.length c7) l.length (l.map dL)) (fun s102 _=>l.length-(intOf s102).toNat)
    case atStart=>exact⟨0,HS,0,Nat.zero_le _,rfl,k7,s7,Lib.hid (by rw[hm6.out];rfl),ho7⟩
    case round=>
     clear ho7 k7 s7
     obtain⟨j,Hj,ej,hj,rfl,hj3,sj3,qj,hoj⟩:=hrel
     by_cases hjl:j<l.length
     ·have hji:(j:Int)<(l.length:Int):=by omega
      obtain⟨_,_,e9,_,_,_,hrL⟩:=hoj.rd
      cases e9
      obtain⟨bl,ol,rfl,hcj⟩:=hrL j (dL l[j]) (by rw[List.getElem?_map,List.getElem?_eq_getElem hjl];rfl)
      unfold dL at hcj
      have hi:=hin.out _ (List.getElem_mem hjl)
      have hstep:=Lib.hid (BS ⟨dV H.ma P q,0⟩ P q l j hjl)
      generalize l[j]=i at *
      have hspj:=EU P q (l.take j) ⟨dV H.ma P q,0⟩
      rw[←qj.out,←hm6.out] at hspj
      have hlj:Hj.sp.length=HS.sp.length:=qf hspj.1
      have hfi:0≤fw (bP Hj.ma P).ar i:=by
       rw[hspj.2,jr hQ6]
       have hne:(ent H.ma P i).k≠0:=by unfold ent;rw[←hQs'.out];exact hi.2
       obtain⟨pg,hpg,_⟩:=hR'.out.en P i hne
       have:=(IM hpg).2
       rw[←hQs'.out] at this
       exact this
      have hlj':=Lib.hid hlj
      clear hspj hlj
      go_wp2_with fail
      refine (DF Hj ej i P q _ b _ hj3 (by rw[hlj'.out];exact hP2) (by rw[hlj'.out];exact hq2) hfi).mono ?_
      rintro r w8 ⟨rfl,H8,e8,h8,s8,q8⟩
      have ho8:=s8.own hj3 hoj (by decide)
      have s08:=sj3.trans s8
      have hq8:Hid (Kp.mk H8.ma e8=ja ⟨dV H.ma P q,0⟩ P q (l.take (j+1))):=Lib.hid (by rw[hstep.out,←qj.out];exact q8)
      clear q8 s8 hj3 sj3 hoj qj hrL hcj hfi hi
      go_wp2
      go_roundw
      case rel=>exact⟨j+1,H8,e8,by omega,by go_num,h8,s08,hq8,ho8⟩
      case measure=>simp[intOf];omega
     ·have hji:¬(j:Int)<(l.length:Int):=by omega
      rw[List.take_of_length_le (by omega)] at qj
      obtain⟨m',hm1,hF⟩:=KF hR'.out hC'.out (p:=P) (q:=q) (by rw[qw];exact hpl) (by rw[hsp.out];exact hlvQ) hnq'.out
      rw[hfk.out,←qj.out] at hm1
      obtain⟨rfl,rfl⟩:=Kp.mk.inj hm1
      have hF':=Lib.hid hF
      have rxj:=sj3.blk k6 rx6 machT
      have hbrj:=vV hbr6 (sj3.to k6 (Nat.le_refl _))
      have rxl:=rxj.lt
      clear hoj qj hm1 hF sj3 k6 rx6 hbr6
      have hcj:=hj3.blk.cell
      unfold qy at hcj
      go_wp2_with (first | (refine ay _ _ rfl b 0 rfl rfl (bR Hj).toList (bQ hj3.blk 0 11) _ Tryz.underlying41 rfl machine_size ?_) | (refine az rfl _ _ _ rfl (w.heap.size+1) (bR Hj) rfl rfl _ _ rxj rfl mach_size (fG _) ?_))
      intro we rxe hge
      have hbre:=hbrj.grown hge hbrj.size (fun k hk=>by cases hk;omega)
      have hme:=hj3.ma.keep rxj (by decide) hge
      go_wp2
      refine bodyPost_ret (v:=.tuple #[.agg (bR Hj),.int .i64 q,.int .i64 0]) (dP Tryz.results11 _ _ (w.heap.size+1) _ _ _ _ _ rfl rfl rfl rxe Tryz.underlying41 rfl mach_size) rfl ?_
      exact⟨hbre,.inr (.inr ⟨hnb.out,Hj,q,hnq'.out,rfl,hme,hF'.out⟩)⟩
def yg (x:Int) (m:Nat):Nat:=(max (min x m) 0).toNat
theorem Dn (x:Int) (m:Nat):yg x m≤m:=by unfold yg;omega
theorem Af (x:Int) (m:Nat):((yg x m:Nat):Int)=max (min x m) 0:=by unfold yg;omega
def Mi (f s b:Int) (l:List UInt8) (w:World) (r:Ending) (w' : World):Prop:=∃H:MH,r = .returned (.agg (bR H))∧qK w' w.heap.size H∧Below w.heap.size w w'∧Rt H.ma∧Co H.ma∧(∀p∈H.sp,∀n g,onA p.ar n=some g→g.fi<H.fi.length) ∧
 H.m.fs.length=yg f 40∧H.dk.blocks.length=yg b 80∧(1≤H.sp.length∧H.sp.length≤2)∧(l=[]→H.ma=qB (yg f 40) (yg s 60) (yg b 80))
theorem xK (fr sl bl:Int) (al:Option Addr) (cl:Nat) (l:List UInt8) (w:World) (hr:lX w al cl l.length (l.map kT)) :
  Calls Tryz.prog 10 #[.int .i64 fr,.int .i64 sl,.int .i64 bl,.slice al l.length cl] w (Mi fr sl bl l w):=by
 have hra:Hid (∀a,al=some a→l.map kT≠[]→a.block<w.heap.size):=Lib.hid fun a ha hl=>by
  obtain⟨u,hu⟩:∃u,(l.map kT)[0]?=some u:=⟨_,List.getElem?_eq_getElem (List.length_pos_iff.2 hl)⟩
  obtain⟨b',o',e,hc⟩:=hr.rd 0 u hu
  rw[ha] at e
  cases e
  exact zM hc
 go_enter Tryz.func10,Tryz.ntmps10
 go_upto_region 2 with (fail)
 refine mg (fun W=>Code.wp _ _ _ _ W) fun w1 hb1 bx1 mx1 hs1 => ?_
 have hr1:=hr.below hb1
 have mx1:aF w1 (w.heap.size+1) (eP ⟨al,cl,l,noH,none,0,[]⟩) 77:=mx1
 have bx1:aF w1 w.heap.size (bR noH) 41:=bx1
 clear hr
 go_upto_region 3 with (fail)
 have e0:(if (if 40<fr then (40:Int) else fr)<0 then 0 else if 40<fr then 40 else fr)=((yg fr 40:Nat):Int):=by
  rw[Af];split<;>split<;>omega
 have e1:(if (if 60<sl then (60:Int) else sl)<0 then 0 else if 60<sl then 60 else sl)=((yg sl 60:Nat):Int):=by
  rw[Af];split<;>split<;>omega
 have e2:(if (if 80<bl then (80:Int) else bl)<0 then 0 else if 80<bl then 80 else bl)=((yg bl 80:Nat):Int):=by
  rw[Af];split<;>split<;>omega
 rw[e0,e1,e2]
 clear e0 e1 e2
 generalize (if 40<fr then (40:Int) else fr)=z0
 generalize (if 60<sl then (60:Int) else sl)=z1
 generalize (if 80<bl then (80:Int) else bl)=z2
 obtain⟨f,hf⟩:∃f,yg fr 40=f:=⟨_,rfl⟩
 obtain⟨s,hs⟩:∃s,yg sl 60=s:=⟨_,rfl⟩
 obtain⟨ct,hct⟩:∃ct,yg bl 80=ct:=⟨_,rfl⟩
 have hf40:f≤40:=by rw[←hf];exact Dn _ _
 have hs60:s≤60:=by rw[←hs];exact Dn _ _
 have hc80:ct≤80:=by rw[←hct];exact Dn _ _
 have hcl:=Lib.hid (And.intro hf (And.intro hs hct))
 rw[hf,hs,hct]
 clear hf hs hct
 have hb1z:w.heap.size+2≤w1.heap.size:=mx1.lt
 have hmkF:∀W:World,(Instr.makeSlice 26 (.int .i64 (f:Int)) (.int .i64 (f:Int))).run Tryz.prog W = .ok (.slice (some ⟨W.heap.size,0,none⟩) f f) (W.alloc (.cells (madeCells (qi fr0) (f*13)) 81)):=
  zK 26 81 _ 13 40 Tryz.underlying26 frame_info .i64 .i64 f (by omega) (by omega)
 have hmkS:∀W:World,(Instr.makeSlice 30 (.int .i64 (s:Int)) (.int .i64 (s:Int))).run Tryz.prog W = .ok (.slice (some ⟨W.heap.size,0,none⟩) s s) (W.alloc (.cells (madeCells #[.int .i64 0] (s*1)) 3)):=
  zK 30 3 _ 1 8 Tryz.underlying30 int_info .i64 .i64 s (by omega) (by omega)
 have hmkW:∀W:World,(Instr.makeSlice 31 (.int .i64 (s:Int)) (.int .i64 (s:Int))).run Tryz.prog W = .ok (.slice (some ⟨W.heap.size,0,none⟩) s s) (W.alloc (.cells (madeCells (dW zPg) (s*8)) 79)):=
  zK 31 79 _ 8 8 Tryz.underlying31 page_info .i64 .i64 s (by omega) (by omega)
 have hmkD:∀W:World,(Instr.makeSlice 31 (.int .i64 (ct:Int)) (.int .i64 (ct:Int))).run Tryz.prog W = .ok (.slice (some ⟨W.heap.size,0,none⟩) ct ct) (W.alloc (.cells (madeCells (dW zPg) (ct*8)) 79)):=
  zK 31 79 _ 8 8 Tryz.underlying31 page_info .i64 .i64 ct (by omega) (by omega)
 have hb2:=Lib.hid hb1
 clear hb1
 refine dN 17 [_,_,.r 2 ((aQ fun _=>True)),.r 3 ((aQ fun _=>True)),_,.r 5 ((aQ fun _=>True)),_,.r 7 ((aQ fun _=>True)),.r 8 ((aQ fun _=>True)),_,.r 10 ((aQ fun _=>True)),.r 11 ((aQ fun _=>True)),_,.v (.agg #[.slice none 0 0,.int .i64 (ct:Int)]),.r 14 ((aQ fun _=>True)),_,_] (JM w1 w1.heap.size f s ct (qi fr0) #[.int .i64 0] (dW zPg)) mG (fun y=>NU y) (Qk mG rfl (Qk mG rfl (ag ?_ (ag ?_ (Qk mG rfl (ag ?_ (Qk mG rfl (ag ?_ (ag ?_ (Qk mG rfl (ag ?_ (ag ?_ (Qk mG rfl (ag ?_ (ag ?_ (Qk mG rfl (Qf mG (w.heap.size+1) 1 rfl rfl (aB) (fun _ _ _ _ hLd h=>sU (by decide) h)) (fun _ _ _ _ hLd h=>sU (by decide) h)))) (fun _ _ _ _ hLd h=>sU (by decide) h)))) (fun _ _ _ _ hLd h=>sU (by decide) h)))) (fun _ _ _ _ hLd h=>sU (by decide) h))) (fun _ _ _ _ hLd h=>sU (by decide) h)))) (fun _ _ _ _ hLd h=>sU (by decide) h)) (fun _ _ _ _ hLd h=>sU (by decide) h)) (fun _=>rfl) rfl ?_
 ·intro ρ y W L hw hn hLi hLd hb hd;have E32:=hw 32 1 rfl;have h1:y 1=_:=hd 1 rfl
  refine bL (.slice (some ⟨W.heap.size,0,none⟩) f f) (ah rfl) ?_ (Ob hLi (Nat.le_refl _) hb) trivial
  simp[execOp,go_sem,E32,h1,hmkF]
 ·intro ρ y W L hw hn hLi hLd hb hd;have E33:=hw 33 2 rfl;have h2:=hd 2 rfl
  obtain⟨g,e2,_,_⟩:=hb.k2 (hLd 2 rfl)
  refine bL (.agg #[y 2,.int .i64 0]) (ah rfl) ?_ (Oe hLi (hLd 2 rfl) hb) trivial
  rw[e2] at E33 ⊢
  simp[execOp,go_sem,E33]
 ·intro ρ y W L hw hn hLi hLd hb hd;have E35:=hw 35 4 rfl;have h4:y 4=_:=hd 4 rfl
  refine bL (.slice (some ⟨W.heap.size,0,none⟩) s s) (ah rfl) ?_ (NW hLi (Nat.le_refl _) hb) trivial
  simp[execOp,go_sem,E35,h4,hmkS]
 ·intro ρ y W L hw hn hLi hLd hb hd;have E37:=hw 37 6 rfl;have h6:y 6=_:=hd 6 rfl
  refine bL (.slice (some ⟨W.heap.size,0,none⟩) s s) (ah rfl) ?_ (NY hLi (Nat.le_refl _) hb) trivial
  simp[execOp,go_sem,E37,h6,hmkW]
 ·intro ρ y W L hw hn hLi hLd hb hd;have E38:=hw 38 7 rfl;have h7:=hd 7 rfl
  obtain⟨g,e2,_,_⟩:=hb.k7 (hLd 7 rfl)
  refine bL (.agg #[y 7,.slice none 0 0]) (ah rfl) ?_ (NZ hLi (hLd 7 rfl) hb) trivial
  rw[e2] at E38 ⊢
  simp[execOp,go_sem,E38]
 ·intro ρ y W L hw hn hLi hLd hb hd;have E40:=hw 40 9 rfl;have h9:y 9=_:=hd 9 rfl
  refine bL (.slice (some ⟨W.heap.size,0,none⟩) ct ct) (ah rfl) ?_ (Nc hLi (Nat.le_refl _) hb) trivial
  simp[execOp,go_sem,E40,h9,hmkD]
 ·intro ρ y W L hw hn hLi hLd hb hd;have E41:=hw 41 10 rfl;have h10:=hd 10 rfl
  obtain⟨g,e2,_,_⟩:=hb.k10 (hLd 10 rfl)
  refine bL (.agg #[y 10,.slice none 0 0]) (ah rfl) ?_ (NC hLi (hLd 10 rfl) hb) trivial
  rw[e2] at E41 ⊢
  simp[execOp,go_sem,E41]
 ·intro ρ y W L hw hn hLi hLd hb hd
  refine bY mG (fun _ _ h=>sU (by decide) h) hb ?_
  have E43:=hw 43 12 rfl
  have h12:y 12=_:=hd 12 rfl
  refine aj (.agg #[.slice none 0 0,.int .i64 (ct:Int)]) (ah rfl) (by simp[execOp,go_sem,E43,h12]) rfl
 ·intro ρ y W L hw hn hLi hLd hb hd;have E34:=hw 34 3 rfl;have h3:=hd 3 rfl;have E36:=hw 36 5 rfl;have h5:=hd 5 rfl;have E39:=hw 39 8 rfl;have h8:=hd 8 rfl;have E42:=hw 42 11 rfl;have h11:=hd 11 rfl
  have E44:=hw 44 13 rfl
  have h13:y 13=_:=hd 13 rfl
  obtain⟨l2,e3⟩:=hb.k3 (hLd 3 rfl)
  obtain⟨l7,e8⟩:=hb.k8 (hLd 8 rfl)
  obtain⟨l10,e11⟩:=hb.k11 (hLd 11 rfl)
  obtain⟨g2,e2,_,_⟩:=hb.k2 l2
  obtain⟨g5,e5,_,_⟩:=hb.k5 (hLd 5 rfl)
  obtain⟨g7,e7,_,_⟩:=hb.k7 l7
  obtain⟨g10,e10,_,_⟩:=hb.k10 l10
  refine bL (.agg #[y 2,.int .i64 0,y 5,y 7,.slice none 0 0,y 10,.slice none 0 0,.slice none 0 0,.int .i64 ct,.slice none 0 0,.slice none 0 0]) (ah rfl) ?_ (Nt (hLd 3 rfl) (hLd 5 rfl) (hLd 8 rfl) (hLd 11 rfl) hb) trivial
  rw[e3,e2] at E34
  rw[e5] at E36
  rw[e8,e7] at E39
  rw[e11,e10] at E42
  rw[e2,e5,e7,e10]
  simp[execOp,go_sem,E34,E36,E39,E42,E44,h13]
 intro y W3 hbW3 hRW3
 have hy2:((aQ fun _=>True)).r (y 2) W3:=hRW3 2 (by decide)
 have hy3:((aQ fun _=>True)).r (y 3) W3:=hRW3 3 (by decide)
 have hy5:((aQ fun _=>True)).r (y 5) W3:=hRW3 5 (by decide)
 have hy7:((aQ fun _=>True)).r (y 7) W3:=hRW3 7 (by decide)
 have hy8:((aQ fun _=>True)).r (y 8) W3:=hRW3 8 (by decide)
 have hy10:((aQ fun _=>True)).r (y 10) W3:=hRW3 10 (by decide)
 have hy11:((aQ fun _=>True)).r (y 11) W3:=hRW3 11 (by decide)
 have hy14:((aQ fun _=>True)).r (y 14) W3:=hRW3 14 (by decide)
 clear hRW3
 obtain⟨⟨l3,l5,l8,l11⟩,e14⟩:=hbW3.k14 rfl
 obtain⟨gf,e2,bf,kf⟩:=hbW3.k2 rfl
 obtain⟨gs,e5,bs,ks⟩:=hbW3.k5 rfl
 obtain⟨gw,e7,bw,kw⟩:=hbW3.k7 rfl
 obtain⟨gd,e10,bd,kd⟩:=hbW3.k10 rfl
 have hwd:gw≠gd:=KM kw kd (by rw[←e7,←e10];exact hbW3.ne rfl rfl)
 have mx3:=mx1.ext hbW3.be
 have bx3:=bx1.ext hbW3.be
 have hr3:=hr1.below hbW3.be
 have hbe3:=Lib.hid (ae hb2.out hbW3.be)
 rw[e14,e2,e5,e7,e10]
 clear hy2 hy3 hy5 hy7 hy8 hy10 hy11 hy14 e14 e2 e5 e7 e10 hbW3 l3 l5 l8 l11 hmkF hmkS hmkW hmkD mx1 bx1 hr1 hb2
 go_wp2_with (refine aC rfl _ _ _ rfl (w.heap.size+1) 1 _ [.slice (some ⟨gf,0,none⟩) f f,.int .i64 0,.slice (some ⟨gs,0,none⟩) s s,.slice (some ⟨gw,0,none⟩) s s,.slice none 0 0,.slice (some ⟨gd,0,none⟩) ct ct,.slice none 0 0,.slice none 0 0,.int .i64 ct,.slice none 0 0,.slice none 0 0] rfl rfl rfl _ _ mx3 (by show 1+11≤13;omega) (by kernel_rfl) (by simp[Value.oneCell']) ?_)
 intro w4 hb4 hg4
 have hk4:aF w4 (w.heap.size+1) (eP ⟨al,cl,l,KE gf gs gw gd f s ct,none,0,[]⟩) 77:=by
  have e:eP ⟨al,cl,l,KE gf gs gw gd f s ct,none,0,[]⟩=bC (eP ⟨al,cl,l,noH,none,0,[]⟩) 1 [.slice (some ⟨gf,0,none⟩) f f,.int .i64 0,.slice (some ⟨gs,0,none⟩) s s,.slice (some ⟨gw,0,none⟩) s s,.slice none 0 0,.slice (some ⟨gd,0,none⟩) ct ct,.slice none 0 0,.slice none 0 0,.int .i64 ct,.slice none 0 0,.slice none 0 0]:=by
   unfold eP KE noH
   dsimp only
   rw[List.length_replicate,List.length_replicate,List.length_replicate,List.length_replicate]
   kernel_rfl
  rw[e];exact hb4
 have hm4:dm w4 (w.heap.size+1) (w.heap.size+1) ⟨al,cl,l,KE gf gs gw gd f s ct,none,0,[]⟩:=
  LB (hr3.keep (B:=w.heap.size+1) (fun a ha hl=>Nat.lt_succ_of_lt (hra.out a ha hl)) (Nat.le_of_lt mx3.lt) hg4 (Nat.le_refl _)) (fun a ha hl=>Nat.lt_succ_of_lt (hra.out a ha hl)) (Nat.le_refl _) hk4 hf40 hs60 hc80 (by omega) (by omega) (by omega) (by omega) hwd (zf:=qi fr0) (zs:=#[.int .i64 0]) (zp:=dW zPg) rfl rfl rfl
   (kf.grown hg4 (fun e=>by have:=Option.some.inj e;omega)) (ks.grown hg4 (fun e=>by have:=Option.some.inj e;omega)) (kw.grown hg4 (fun e=>by have:=Option.some.inj e;omega)) (kd.grown hg4 (fun e=>by have:=Option.some.inj e;omega))
 have bx4:aF w4 w.heap.size (bR noH) 41:=bx3.grown hg4 (fun e=>by have:=Option.some.inj e;omega)
 have hbe4:Hid (Below w.heap.size w w4):=Lib.hid (hbe3.out.grown hg4 (Nat.le_trans (by omega) (Nat.le_of_lt mx3.lt)) (fun k hk=>by cases hk;omega))
 have hszl4:w.heap.size+2≤w4.heap.size:=hk4.lt
 clear kf ks kw kd mx3 bx3 hr3 hbe3 hb4 hg4 hk4 bf bs bw bd hwd hra hb1z
 generalize hb' : w.heap.size+1=b at hm4 hszl4 ⊢
 have hbb:=Lib.hid hb'
 clear hb'
 obtain⟨S3,hS3⟩:∃S3,S3=(⟨al,cl,l,KE gf gs gw gd f s ct,none,0,[]⟩:MW):=⟨_,rfl⟩
 have hS3':=Lib.hid hS3
 rw[←hS3] at hm4
 have hc:=hm4.blk.cell
 unfold eP at hc
 have hfl:S3.H.m.fs.length=f:=by rw[hS3];exact List.length_replicate
 rw[hfl] at hc
 clear hfl
 have hm4q:dm w4 b b (S3.frs (tY f 0)):=by
  have e:S3.frs (tY f 0)=S3:=by rw[hS3];rfl
  rw[e];exact hm4
 have hs4q:MS w4 b S3 w4 (S3.frs (tY f 0)):=(MS.refl w4 b S3).same rfl
 have hnb4:Hid (¬iY b S3 w.heap.size):=Lib.hid (fun hk=>by
  have h1:=(hm4.kb_own hk).1
  have h2:=hbb.out
  omega)
 have hto:Hid (∀w' S',MS w4 b S3 w' S'→Below b w4 w'):=Lib.hid (fun w' S' h=>MS.to hm4 h (Nat.le_refl b))
 clear hS3 hm4
 have bx4':=Lib.hid bx4
 clear bx4
 go_upto_region 5 with (fail)
 go_loopw [55] (fun k wr => ∃q:Nat,q≤f∧k = .int .i64 q∧dm wr b b (S3.frs (tY f q))∧MS w4 b S3 wr (S3.frs (tY f q))) (fun k _=>f-(intOf k).toNat)
 case atStart=>exact⟨0,Nat.zero_le _,rfl,hm4q,hs4q⟩
 case round=>
  clear hm4q hs4q
  obtain⟨q,hq,rfl,hm,hs⟩:=hrel
  by_cases hqf:q<f
  ·have hqi:(q:Int)<(f:Int):=by omega
   have hlq:(tY f q).length=f:=Ac hq
   have hc:=hm.blk.cell
   unfold eP at hc
   dsimp only[MW.frs] at hc
   rw[hlq] at hc
   obtain⟨g,off,cap,cur,hv,hgB,hg,hgs,hgc,hgw⟩:=hm.ma.fr.put eT (by decide) q (by show q<(tY f q).length;omega)
   have haf:S3.H.af=some ⟨g,off,none⟩:=(Value.slice.inj hv).1
   have hcur:Hid (∀j u,(nE fr0)[j]?=some u→cur[off+q*13+j]?=some u):=Lib.hid fun j u hj=>by
    have e:(S3.frs (tY f q)).H.m.fs[q]'(by show q<(tY f q).length;omega)=fr0:=KG hqf (by omega)
    have:=hgc j u (by rw[e];exact hj)
    rw[hg.cell] at this
    exact this
   rw[haf] at hc
   have hgw':=Lib.hid hgw
   have hlq':=Lib.hid hlq
   have haf':=Lib.hid haf
   clear hv hgc hgw hlq haf
   go_wp2_with (refine aC rfl _ _ _ rfl g (off+q*13+11) _ [.int .i64 (-1)] rfl rfl rfl _ _ hg (by show off+q*13+11+1≤cur.size;omega) (by kernel_rfl) (fun u hu=>by cases List.mem_singleton.1 hu;rfl) ?_)
   intro w5 hb5 hg5
   rw[Li hgs hcur.out] at hb5
   have ho:=hgw'.out _ _ hb5
   have hset:(S3.frs (tY f q)).H.m.fs.set q frZ=tY f (q+1):=Lx hqf
   have hlen:(tY f (q+1)).length=(tY f q).length:=by rw[Ac (by omega),Ac hq]
   rw[hset] at ho
   have hm5:dm w5 b b (S3.frs (tY f (q+1))):=hm.putF hg hgB hg5 (fs:=tY f (q+1)) hlen (by rw[hlen];exact ho)
   have hs5:MS w4 b S3 w5 (S3.frs (tY f (q+1))):=hs.put hg5 (.inr (by show some g∈dZ S3;unfold dZ;rw[haf'.out];exact List.mem_cons_self)) (fun x hx => .inl hx)
   clear hm hs hg hgs hb5 hg5 hc ho hset hlen
   go_wp2
   go_roundw
   case rel=>exact⟨q+1,by omega,by go_num,hm5,hs5⟩
   case measure=>simp[intOf];omega
  ·have hqi:¬(q:Int)<(f:Int):=by omega
   have hqe:f=q:=by omega
   subst hqe
   rw[LC] at hm hs
   go_wp2_with fail
   refine (dH _ 3 b b _ hm (by omega)).mono ?_
   rintro r w5 ⟨N,a5,c5,l5,rfl,hm5,hs5,hN,hN0⟩
   have hs5:=hs.trans hs5
   have hl5:Hid (l=[]→N=0∧l5=[]):=Lib.hid fun e=>hN0 (by show S3.l=[];rw[hS3'.out];exact e)
   have hF5:zo f s ct S3.H.asl ((S3.frs (List.replicate f frZ)).lst a5 c5 l5).H.fi (List.replicate ct zPg) [] ((S3.frs (List.replicate f frZ)).lst a5 c5 l5):=by
    rw[hS3'.out]
    exact⟨rfl,rfl,rfl,rfl,rfl,rfl,rfl,rfl,rfl,rfl⟩
   have hfi5:((S3.frs (List.replicate f frZ)).lst a5 c5 l5).H.fi=[]:=by rw[hS3'.out];rfl
   have hls5:Hid (l=[]→((S3.frs (List.replicate f frZ)).lst a5 c5 l5).l=[]):=Lib.hid fun e=>(hl5.out e).2
   obtain⟨N,rfl⟩:=Int.eq_ofNat_of_zero_le hN.1
   have hN2:N≤2:=by omega
   clear hm hs hN hN0 hqf hqi hq
   generalize (S3.frs (List.replicate f frZ)).lst a5 c5 l5=S5 at hm5 hs5 hF5 hfi5 hls5
   go_upto_region 10 with (fail)
   go_loopw [70] (fun k wr => ∃(q:Nat) (S:MW) (bk:List Page) (qu:List (Int × Page)),q≤N∧k = .int .i64 q∧dm wr b b S∧MS w4 b S3 wr S∧Hid (zo f s ct S3.H.asl S.H.fi bk qu S∧Fb ct bk qu (S.H.fi.map PF.fi) []∧S.H.fi.length=q∧(q=0→bk=List.replicate ct zPg∧qu=[]∧(l=[]→S.l=[])))) (fun k _=>N-(intOf k).toNat)
   case atStart=>exact⟨0,S5,_,_,Nat.zero_le _,rfl,hm5,hs5,Lib.hid ⟨hF5,by rw[hfi5];exact Fb.start hc80,by rw[hfi5];rfl,fun _=>⟨rfl,rfl,hls5.out⟩⟩⟩
   case round=>
    clear hm5 hs5 hF5 hfi5 hls5
    obtain⟨q,S,bk,qu,hq,rfl,hm,hs,hI⟩:=hrel
    obtain⟨fi0,hfi0⟩:∃fi0,S.H.fi=fi0:=⟨_,rfl⟩
    rw[hfi0] at hI
    clear hfi0
    have hl0q:Hid (fi0.length=q):=Lib.hid hI.out.2.2.1
    have hl0:Hid (fi0.length≤2):=Lib.hid (by have:=hI.out.2.2.1;omega)
    by_cases hqN:q<N
    ·have hqi:(q:Int)<(N:Int):=by omega
     go_wp2_with fail
     refine (dH _ 40 b b _ hm (by omega)).mono ?_
     rintro r w6 ⟨x,a6,c6,l6,rfl,hm6,hs6,hx,_⟩
     have hs6:=hs.trans hs6
     have hF6:Hid (zo f s ct S3.H.asl fi0 bk qu (S.lst a6 c6 l6)):=Lib.hid (hI.out.1.lst _ _ _)
     have hx1:0≤x∧x<40:=by omega
     obtain⟨C,hC⟩:∃C:Nat,dA x=C:=⟨(dA x).toNat,by unfold dA;split<;>omega⟩
     have hC5:C≤5:=by unfold dA at hC;split at hC<;>omega
     have hC':=Lib.hid hC
     clear hm hs hx hC
     generalize S.lst a6 c6 l6=S6 at hm6 hs6 hF6
     go_wp2_with (refine aH rfl _ _ _ rfl (gZ ⟨x,none,[],0⟩) rfl rfl rfl file_size (kC _) ?_)
     intro w7 hb7 fx7
     have hm7:=hm6.below hb7
     have hs67:=(MS.refl w6 b S6).below hb7
     have hnf:Hid (¬iY b S6 w6.heap.size):=Lib.hid (hm6.new (Nat.le_refl _))
     have hgB:b≤w6.heap.size:=hm6.bs
     have hgB':=Lib.hid hgB
     clear hm6 hb7
     generalize hg60:w6.heap.size=gf0 at hnf hgB fx7 ⊢
     have hg6:Hid (w6.heap.size≤gf0):=Lib.hid (Nat.le_of_eq hg60)
     clear hg60
     have hcf:=fx7.cell
     unfold gZ at hcf
     go_wp2_with fail
     refine (qU x _ (by omega)).mono ?_
     rintro r w8 ⟨rfl,rfl⟩
     rw[hC'.out]
     clear hcf
     have hnp6:∀p∈fi0,True:=fun _ _=>trivial
     clear hnp6
     go_upto_region 13 with (fail)
     go_loopw [78] (fun k wr => ∃(i:Nat) (S:MW) (bk:List Page) (qu:List (Int × Page)) (xs:List Int) (xa:Option Addr) (xc:Nat),i≤C∧k = .int .i64 i∧dm wr b b S∧MS w6 b S6 wr S∧Hid (¬iY b S gf0)∧Hid (zo f s ct S3.H.asl fi0 bk qu S∧Fb ct bk qu (fi0.map PF.fi) xs∧xs.length=i)∧aF wr gf0 (gZ ⟨x,xa,xs,xc⟩) 67 ∧
      Hid (Own wr b 3 1 (lY ⟨x,xa,xs,xc⟩) xs.length (xs.map dL)∧∀g,oB xa=some g→w6.heap.size≤g∧oB S3.H.asl≠some g∧∀p∈fi0,oB p.a≠some g)) (fun k _=>C-(intOf k).toNat)
     case atStart=>exact⟨0,S6,bk,qu,[],none,0,Nat.zero_le _,rfl,hm7,hs67,hnf,Lib.hid ⟨hF6.out,hI.out.2.1,rfl⟩,fx7,Lib.hid ⟨Own.nil _ _ _ _,fun g hg=>(by cases hg)⟩⟩
     case round=>
      clear hm7 fx7 hI hF6 hs67 hnf
      obtain⟨i,S,bk,qu,xs,xa,xc,hi,rfl,hm,hs,hkf',hI,fx,ho⟩:=hrel
      by_cases hiC:i<C
      ·have hii:(i:Int)<(C:Int):=by omega
       go_upto_region 16 with (fail)
       have hkx:∀g,(lY ⟨x,xa,xs,xc⟩).ownBlock=some g→¬iY b S g:=fun g hg=>by
        obtain⟨cs,hk⟩:=ic ho.out.1 g hg
        refine hm.kb_int hk ?_
        rw[hI.out.1.asl]
        exact (ho.out.2 g (by unfold lY at hg;rw[iK] at hg;exact hg)).2.1
       have hkx':=Lib.hid hkx
       clear hkx
       go_cut [14] (fun s14 wx => ∃(n:Nat) (a:Option Addr) (c:Nat) (l:List UInt8),s14 = .int .i64 n∧n<256∧dm wx b b (S.lst a c l)∧MS wr b S wx (S.lst a c l)∧aF wx gf0 (gZ ⟨x,xa,xs,xc⟩) 67∧Hid (Own wx b 3 1 (lY ⟨x,xa,xs,xc⟩) xs.length (xs.map dL)))
       case first=>
        go_wp2_with fail
        all_goals
         refine (dH S _ b b _ hm (by omega)).mono ?_
         rintro r w8 ⟨n,a8,c8,l8,rfl,hm8,hs8,hn,_⟩
         obtain⟨n,rfl⟩:=Int.eq_ofNat_of_zero_le hn.1
         have hn256:(n:Int)<256:=hn.2.1
         have fx8:=hs8.blkN fx hkf'.out
         have ho8:Hid (Own w8 b 3 1 (lY ⟨x,xa,xs,xc⟩) xs.length (xs.map dL)):=Lib.hid (hs8.ownN ho.out.1 hkx'.out)
         clear hm fx hn
         go_wp2
         go_meet
         case rel=>exact⟨n,a8,c8,l8,rfl,by omega,hm8,hs8,fx8,ho8⟩
       case rest=>
       obtain⟨n,a8,c8,l8,rfl,hn256,hm8,hs8,fx8,ho8'⟩:=hcut
       have ho8:Hid (Own wc b 3 1 (lY ⟨x,xa,xs,xc⟩) xs.length (xs.map dL)∧∀g,oB xa=some g→w6.heap.size≤g∧oB S3.H.asl≠some g∧∀p∈fi0,oB p.a≠some g):=Lib.hid ⟨ho8'.out,ho.out.2⟩
       clear ho8'
       have hF8:Hid (zo f s ct S3.H.asl fi0 bk qu (S.lst a8 c8 l8)∧Fb ct bk qu (fi0.map PF.fi) xs∧xs.length=i):=Lib.hid ⟨hI.out.1.lst _ _ _,hI.out.2⟩
       have hs8:=hs.trans hs8
       have hkf8:Hid (¬iY b (S.lst a8 c8 l8) gf0):=hkf'
       have hkx8:Hid (∀g,(lY ⟨x,xa,xs,xc⟩).ownBlock=some g→¬iY b (S.lst a8 c8 l8) g):=hkx'
       clear hm hs hI fx ho hkf' hkx'
       generalize S.lst a8 c8 l8=S8 at hm8 hs8 hF8 hkf8 hkx8
       go_upto_region 17 with (fail)
       go_cut [109] (fun s109 wx => ∃(β:Bool) (a:Option Addr) (c:Nat) (l:List UInt8),s109 = .bool β∧dm wx b b (S8.lst a c l)∧MS wc b S8 wx (S8.lst a c l)∧aF wx gf0 (gZ ⟨x,xa,xs,xc⟩) 67∧Hid (Own wx b 3 1 (lY ⟨x,xa,xs,xc⟩) xs.length (xs.map dL))∧Hid (β=true→n<ct∧¬(n:Int)∈(fi0.map PF.fi).flatMap Fi.b++xs))
       case first=>
        have hgf8:gf0<wc.heap.size:=fx8.lt
        have hl8:S8.H.fi.length≤5:=by
         have e1:=hF8.out.1.fi
         have e2:=hl0.out
         rw[e1];omega
        by_cases hnc:n<ct
        ·have hdn:(n:Int)<(ct:Int):=by omega
         cases hu:ko (bT (S8.H.fi++[(⟨x,xa,xs,xc⟩:PF)]) 0) (n:Int) with
         | true=>
          refine dN 25 [_,_,_,_,.r 4 ((aQ fun _=>True)),_,_,_,_,_,.v (.slice S8.H.ai S8.H.fi.length S8.H.ci),.r 11 ((aQ fun _=>True)),.v (.agg (gZ ⟨x,xa,xs,xc⟩)),.r 13 ((aQ fun _=>True)),.r 14 ((aQ fun _=>True)),.r 15 ((aQ fun _=>True)),_,.v (.bool true),_,_,_,_,_,_,.v (.bool false)] (xQ S8 b b wc gf0 ⟨x,xa,xs,xc⟩) bU (fun y=>LY hm8 fx8 ho8.out.1 y) (Qk bU rfl (Qk bU rfl (Qb bU (.bool true) (by simp[go_sem,hdn]) rfl rfl rfl rfl rfl (Qk bU rfl (ag ?_ (Qk bU rfl (Qk bU rfl (Qf bU b 1 rfl rfl (Qf bU b 8 rfl rfl (Qf bU b 8 rfl rfl (ag ?_ (ag ?_ (ag ?_ (ag ?_ (ag ?_ (ag ?_ (Qk bU rfl (ag ?_ (Qk bU rfl (Qk bU rfl (Qk bU rfl (Qk bU rfl (Qk bU rfl (Qk bU rfl (Qk bU rfl (aB) (fun _ _ _ _ hLd h=>cO (by decide) h)) (fun _ _ _ _ hLd h=>cO (by decide) h)) (fun _ _ _ _ hLd h=>cO (by decide) h)) (fun _ _ _ _ hLd h=>cO (by decide) h)) (fun _ _ _ _ hLd h=>cO (by decide) h)) (fun _ _ _ _ hLd h=>cO (by decide) h)) (fun _ _ _ _ hLd h=>cO (by decide) h))) (fun _ _ _ _ hLd h=>cO (by decide) h)))))))) (fun _ _ _ _ hLd h=>cO (by decide) h)) (fun _ _ _ _ hLd h=>cO (by decide) h)) (fun _ _ _ _ hLd h=>cO (by decide) h)) (fun _ _ _ _ hLd h=>cO (by decide) h)) (fun _ _ _ _ hLd h=>cO (by decide) h))) (fun _ _ _ _ hLd h=>cO (by decide) h)) (fun _ _ _ _ hLd h=>cO (by decide) h)) (fun _ _ _ _ hLd h=>cO (by decide) h)) (fun _ _ _ _ hLd h=>cO (by decide) h)) (fun _=>rfl) rfl ?_
          ·intro ρ y W L hw hn hLi hLd hb hd
           refine bL (.slice (some ⟨W.heap.size,0,none⟩) 0 0) (aN 3 88 true true rfl rfl ((hw 88 3 rfl).trans (hd 3 rfl))) ?_ (LQ hb) trivial
           simp[execOp,go_sem]
          ·intro ρ y W L hw hn hLi hLd hb hd
           refine bY bU (fun _ _ h=>cO (by decide) h) hb ?_
           have E94:=hw 94 9 rfl
           have h9:y 9=_:=hd 9 rfl
           obtain⟨⟨a0,c0,l0,m1,m2⟩,m3⟩:=hb
           refine aj (.slice S8.H.ai S8.H.fi.length S8.H.ci) (aN 3 88 true true rfl rfl ((hw 88 3 rfl).trans (hd 3 rfl))) (by simp[execOp,go_sem,E94,h9,m1.blk.cell,eP,MW.lst]) rfl
          ·intro ρ y W L hw hn hLi hLd hb hd;have E89:=hw 89 4 rfl;have h4:=hd 4 rfl;have E95:=hw 95 10 rfl;have h10:y 10=_:=hd 10 rfl
           obtain⟨g,hg1,hg2⟩:=hb.2.2.2.1 (hLd 4 rfl) hLi
           have hsz:=hb.2.2.2.2.2.2.2.1
           obtain⟨a0,c0,l0,m1,m2⟩:=hb.1
           have m3:CV W S8.H.ai S8.H.ci S8.H.fi:=m1.ma.rd.st
           refine dM (aN 3 88 true true rfl rfl ((hw 88 3 rfl).trans (hd 3 rfl))) (rZ _ _ _ rfl wc.heap.size 67 _ 2 32 Tryz.underlying35 file_info rfl (by decide) g (E89.trans hg1) hg2 S8.H.ai S8.H.fi.length S8.H.ci (S8.H.fi.flatMap pG) (E95.trans h10) m3.nl m3.le (by rw[Pw.flat_len pG 2 kv]) m3.rd (by unfold maxLen;omega) (by omega) hsz) (fun v W1 h=>Jh hb h.1 h.2) (fun _ _ _=>trivial)
          ·intro ρ y W L hw hn hLi hLd hb hd
           refine bY bU (fun _ _ h=>cO (by decide) h) hb ?_
           have E11:ρ (.tmp 11) = .pointer (some ⟨gf0,0,none⟩):=(hn (.tmp 11) rfl).trans rfl
           have m3:=hb.2.1
           refine aj (.agg (gZ ⟨x,xa,xs,xc⟩)) (aN 3 88 true true rfl rfl ((hw 88 3 rfl).trans (hd 3 rfl))) (aX rfl E11 m3 Tryz.underlying67 rfl file_size) rfl
          ·intro ρ y W L hw hn hLi hLd hb hd;have E97:=hw 97 12 rfl;have h12:y 12=_:=hd 12 rfl
           have hsz:=hb.2.2.2.2.2.2.2.1
           refine bL (.slice (some ⟨W.heap.size,0,none⟩) 1 1) (aN 3 88 true true rfl rfl ((hw 88 3 rfl).trans (hd 3 rfl))) ?_ (IK (W':=W.alloc (.cells (gZ ⟨x,xa,xs,xc⟩) 67)) hb ((Below.refl _ _).alloc (Nat.le_refl _) _) (Ef hsz _)) trivial
           simp[execOp,go_sem,E97.trans h12,gZ]
          ·intro ρ y W L hw hn hLi hLd hb hd;have E96:=hw 96 11 rfl;have h11:=hd 11 rfl;have E98:=hw 98 13 rfl;have h13:=hd 13 rfl
           have hsz:=hb.2.2.2.2.2.2.2.1
           have hv:=hb.2.2.2.2.1 (hLd 11 rfl) hLi
           obtain⟨a,e,hx1,k1,k2,k3,k4⟩:=(hb.2.2.2.2.2.1 (hLd 13 rfl) hLi).rd
           refine dM (aN 3 88 true true rfl rfl ((hw 88 3 rfl).trans (hd 3 rfl))) (gL _ _ _ rfl wc.heap.size 67 _ 2 32 Tryz.underlying35 file_info rfl (by decide) (y 11) S8.H.fi.length _ E96 hv a 1 e (pG ⟨x,xa,xs,xc⟩) (E98.trans hx1) k3 k1 rfl k4 (bv (kC _)) (by unfold maxLen;omega) (by omega) hsz) (fun v W1 h=>IW hm8 hgf8 hb (hLd 11 rfl) hLi h.2.1 h.1) (fun _ _ _=>trivial)
          ·intro ρ y W L hw hn hLi hLd hb hd;have E99:=hw 99 14 rfl;have h14:=hd 14 rfl
           obtain⟨a,c,e14,_⟩:=vI hb (hLd 14 rfl)
           refine bL (.agg #[y 14,.int .i64 0]) (aN 3 88 true true rfl rfl ((hw 88 3 rfl).trans (hd 3 rfl))) ?_ (Iu (hLd 14 rfl) hb) trivial
           rw[e14] at E99 ⊢
           simp[execOp,go_sem,E99]
          ·intro ρ y W L hw hn hLi hLd hb hd;have E100:=hw 100 15 rfl;have h15:=hd 15 rfl;have E101:=hw 101 16 rfl;have h16:y 16=_:=hd 16 rfl
           have EF:∀f,ρ (.func f) = .func (.func f) #[] #[]:=fun f=>hn (.func f) trivial
           obtain⟨l14,e15⟩:=hb.2.2.2.2.2.2.2.2 (hLd 15 rfl)
           obtain⟨a,c,e14,hFs⟩:=vI hb l14
           rw[e15,e14] at E100
           refine eF _ _ (aN 3 88 true true rfl rfl ((hw 88 3 rfl).trans (hd 3 rfl))) (aK rfl (EF _) Tryz.func32 (by kernel_rfl) (by kernel_rfl) (by simp only[List.map_toArray,List.map_cons,List.map_nil,E100,E101,h16,EF];rfl)) ?_
           have hus:=pV (S8.H.fi++[⟨x,xa,xs,xc⟩]) 0 n a c W hFs
           unfold FL at hus
           rw[hu] at hus
           refine hus.mono ?_
           rintro r w1 ⟨hr1,hb1⟩
           exact⟨_,hr1,cO (by decide) (bU _ _ _ _ hb1 hb),rfl⟩
          intro y W9 hbW9 hRW9
          have hy4:((aQ fun _=>True)).r (y 4) W9:=hRW9 4 (by decide)
          have hy11:((aQ fun _=>True)).r (y 11) W9:=hRW9 11 (by decide)
          have hy13:((aQ fun _=>True)).r (y 13) W9:=hRW9 13 (by decide)
          have hy14:((aQ fun _=>True)).r (y 14) W9:=hRW9 14 (by decide)
          have hy15:((aQ fun _=>True)).r (y 15) W9:=hRW9 15 (by decide)
          clear hRW9
          have hbJ:=hbW9.1
          obtain⟨a9,c9,l9,hm9,hs9⟩:=hbJ
          have fx9:=hbW9.2.1
          have ho9:=Lib.hid hbW9.2.2.1
          clear hbW9 hm8 hs8 fx8 ho8
          go_wp2
          go_meet
          case rel=>exact⟨false,a9,c9,l9,rfl,hm9,hs9,fx9,ho9,Lib.hid fun e=>(by cases e)⟩
         | false=>
          refine dN 25 [_,_,_,_,.r 4 ((aQ fun _=>True)),_,_,_,_,_,.v (.slice S8.H.ai S8.H.fi.length S8.H.ci),.r 11 ((aQ fun _=>True)),.v (.agg (gZ ⟨x,xa,xs,xc⟩)),.r 13 ((aQ fun _=>True)),.r 14 ((aQ fun _=>True)),.r 15 ((aQ fun _=>True)),_,.v (.bool false),_,_,_,_,.r 22 ((aQ fun v => ∃x:Int,v = .int .i64 x)),.r 23 ((aQ fun v => ∃u,v = .bool u)),.r 24 ((aQ fun v => ∃u,v = .bool u))] (xQ S8 b b wc gf0 ⟨x,xa,xs,xc⟩) bU (fun y=>LY hm8 fx8 ho8.out.1 y) (Qk bU rfl (Qk bU rfl (Qb bU (.bool true) (by simp[go_sem,hdn]) rfl rfl rfl rfl rfl (Qk bU rfl (ag ?_ (Qk bU rfl (Qk bU rfl (Qf bU b 1 rfl rfl (Qf bU b 8 rfl rfl (Qf bU b 8 rfl rfl (ag ?_ (ag ?_ (ag ?_ (ag ?_ (ag ?_ (ag ?_ (Qk bU rfl (ag ?_ (Qk bU rfl (Qk bU rfl (Qk bU rfl (Qk bU rfl (ag ?_ (ag ?_ (ag ?_ (aB)))) (fun _ _ _ _ hLd h=>cO (by decide) h)) (fun _ _ _ _ hLd h=>cO (by decide) h)) (fun _ _ _ _ hLd h=>cO (by decide) h)) (fun _ _ _ _ hLd h=>cO (by decide) h))) (fun _ _ _ _ hLd h=>cO (by decide) h)))))))) (fun _ _ _ _ hLd h=>cO (by decide) h)) (fun _ _ _ _ hLd h=>cO (by decide) h)) (fun _ _ _ _ hLd h=>cO (by decide) h)) (fun _ _ _ _ hLd h=>cO (by decide) h)) (fun _ _ _ _ hLd h=>cO (by decide) h))) (fun _ _ _ _ hLd h=>cO (by decide) h)) (fun _ _ _ _ hLd h=>cO (by decide) h)) (fun _ _ _ _ hLd h=>cO (by decide) h)) (fun _ _ _ _ hLd h=>cO (by decide) h)) (fun _=>rfl) rfl ?_
          ·intro ρ y W L hw hn hLi hLd hb hd
           refine bL (.slice (some ⟨W.heap.size,0,none⟩) 0 0) (aN 3 88 true true rfl rfl ((hw 88 3 rfl).trans (hd 3 rfl))) ?_ (LQ hb) trivial
           simp[execOp,go_sem]
          ·intro ρ y W L hw hn hLi hLd hb hd
           refine bY bU (fun _ _ h=>cO (by decide) h) hb ?_
           have E94:=hw 94 9 rfl
           have h9:y 9=_:=hd 9 rfl
           obtain⟨⟨a0,c0,l0,m1,m2⟩,m3⟩:=hb
           refine aj (.slice S8.H.ai S8.H.fi.length S8.H.ci) (aN 3 88 true true rfl rfl ((hw 88 3 rfl).trans (hd 3 rfl))) (by simp[execOp,go_sem,E94,h9,m1.blk.cell,eP,MW.lst]) rfl
          ·intro ρ y W L hw hn hLi hLd hb hd;have E89:=hw 89 4 rfl;have h4:=hd 4 rfl;have E95:=hw 95 10 rfl;have h10:y 10=_:=hd 10 rfl
           obtain⟨g,hg1,hg2⟩:=hb.2.2.2.1 (hLd 4 rfl) hLi
           have hsz:=hb.2.2.2.2.2.2.2.1
           obtain⟨a0,c0,l0,m1,m2⟩:=hb.1
           have m3:CV W S8.H.ai S8.H.ci S8.H.fi:=m1.ma.rd.st
           refine dM (aN 3 88 true true rfl rfl ((hw 88 3 rfl).trans (hd 3 rfl))) (rZ _ _ _ rfl wc.heap.size 67 _ 2 32 Tryz.underlying35 file_info rfl (by decide) g (E89.trans hg1) hg2 S8.H.ai S8.H.fi.length S8.H.ci (S8.H.fi.flatMap pG) (E95.trans h10) m3.nl m3.le (by rw[Pw.flat_len pG 2 kv]) m3.rd (by unfold maxLen;omega) (by omega) hsz) (fun v W1 h=>Jh hb h.1 h.2) (fun _ _ _=>trivial)
          ·intro ρ y W L hw hn hLi hLd hb hd
           refine bY bU (fun _ _ h=>cO (by decide) h) hb ?_
           have E11:ρ (.tmp 11) = .pointer (some ⟨gf0,0,none⟩):=(hn (.tmp 11) rfl).trans rfl
           have m3:=hb.2.1
           refine aj (.agg (gZ ⟨x,xa,xs,xc⟩)) (aN 3 88 true true rfl rfl ((hw 88 3 rfl).trans (hd 3 rfl))) (aX rfl E11 m3 Tryz.underlying67 rfl file_size) rfl
          ·intro ρ y W L hw hn hLi hLd hb hd;have E97:=hw 97 12 rfl;have h12:y 12=_:=hd 12 rfl
           have hsz:=hb.2.2.2.2.2.2.2.1
           refine bL (.slice (some ⟨W.heap.size,0,none⟩) 1 1) (aN 3 88 true true rfl rfl ((hw 88 3 rfl).trans (hd 3 rfl))) ?_ (IK (W':=W.alloc (.cells (gZ ⟨x,xa,xs,xc⟩) 67)) hb ((Below.refl _ _).alloc (Nat.le_refl _) _) (Ef hsz _)) trivial
           simp[execOp,go_sem,E97.trans h12,gZ]
          ·intro ρ y W L hw hn hLi hLd hb hd;have E96:=hw 96 11 rfl;have h11:=hd 11 rfl;have E98:=hw 98 13 rfl;have h13:=hd 13 rfl
           have hsz:=hb.2.2.2.2.2.2.2.1
           have hv:=hb.2.2.2.2.1 (hLd 11 rfl) hLi
           obtain⟨a,e,hx1,k1,k2,k3,k4⟩:=(hb.2.2.2.2.2.1 (hLd 13 rfl) hLi).rd
           refine dM (aN 3 88 true true rfl rfl ((hw 88 3 rfl).trans (hd 3 rfl))) (gL _ _ _ rfl wc.heap.size 67 _ 2 32 Tryz.underlying35 file_info rfl (by decide) (y 11) S8.H.fi.length _ E96 hv a 1 e (pG ⟨x,xa,xs,xc⟩) (E98.trans hx1) k3 k1 rfl k4 (bv (kC _)) (by unfold maxLen;omega) (by omega) hsz) (fun v W1 h=>IW hm8 hgf8 hb (hLd 11 rfl) hLi h.2.1 h.1) (fun _ _ _=>trivial)
          ·intro ρ y W L hw hn hLi hLd hb hd;have E99:=hw 99 14 rfl;have h14:=hd 14 rfl
           obtain⟨a,c,e14,_⟩:=vI hb (hLd 14 rfl)
           refine bL (.agg #[y 14,.int .i64 0]) (aN 3 88 true true rfl rfl ((hw 88 3 rfl).trans (hd 3 rfl))) ?_ (Iu (hLd 14 rfl) hb) trivial
           rw[e14] at E99 ⊢
           simp[execOp,go_sem,E99]
          ·intro ρ y W L hw hn hLi hLd hb hd;have E100:=hw 100 15 rfl;have h15:=hd 15 rfl;have E101:=hw 101 16 rfl;have h16:y 16=_:=hd 16 rfl
           have EF:∀f,ρ (.func f) = .func (.func f) #[] #[]:=fun f=>hn (.func f) trivial
           obtain⟨l14,e15⟩:=hb.2.2.2.2.2.2.2.2 (hLd 15 rfl)
           obtain⟨a,c,e14,hFs⟩:=vI hb l14
           rw[e15,e14] at E100
           refine eF _ _ (aN 3 88 true true rfl rfl ((hw 88 3 rfl).trans (hd 3 rfl))) (aK rfl (EF _) Tryz.func32 (by kernel_rfl) (by kernel_rfl) (by simp only[List.map_toArray,List.map_cons,List.map_nil,E100,E101,h16,EF];rfl)) ?_
           have hus:=pV (S8.H.fi++[⟨x,xa,xs,xc⟩]) 0 n a c W hFs
           unfold FL at hus
           rw[hu] at hus
           refine hus.mono ?_
           rintro r w1 ⟨hr1,hb1⟩
           exact⟨_,hr1,cO (by decide) (bU _ _ _ _ hb1 hb),rfl⟩
          ·intro ρ y W L hw hn hLi hLd hb hd;have E106:=hw 106 21 rfl;have h21:y 21=_:=hd 21 rfl
           have EC:∀v,ρ (.const v)=v:=fun v=>hn (.const v) trivial
           have EF:∀f,ρ (.func f) = .func (.func f) #[] #[]:=fun f=>hn (.func f) trivial
           refine eF _ _ (aN 20 105 true true rfl rfl ((hw 105 20 rfl).trans (hd 20 rfl))) (aK rfl (EF _) Tryz.func30 (by kernel_rfl) (by kernel_rfl) (by simp only[List.map_toArray,List.map_cons,List.map_nil,E106,h21,EC,EF];rfl)) ?_
           exact Js (by decide) hm8 hkf8.out hkx8.out 3 (by omega) hb fun x _ _ _=>⟨x,rfl⟩
          ·intro ρ y W L hw hn hLi hLd hb hd
           refine bY bU (fun _ _ h=>cO (by decide) h) hb ?_
           have E107:=hw 107 22 rfl
           have h22:=hd 22 rfl
           obtain⟨x,hx⟩:=h22
           refine aj _ (aN 20 105 true true rfl rfl ((hw 105 20 rfl).trans (hd 20 rfl))) (kE rfl (E107.trans hx) (hn (.const _) trivial) (by simp[go_sem];rfl)) ⟨_,rfl⟩
          ·intro ρ y W L hw hn hLi hLd hb hd
           refine bY bU (fun _ _ h=>cO (by decide) h) hb ?_
           have E105:=hw 105 20 rfl
           have h20:y 20=_:=hd 20 rfl
           have E108:=hw 108 23 rfl
           have h23:=hd 23 rfl
           obtain⟨u,hu9⟩:=h23
           refine aj (.bool u) (ah rfl) (kK rfl (E105.trans h20) (by simpa using E108.trans hu9)) ⟨_,rfl⟩
          intro y W9 hbW9 hRW9
          have hy4:((aQ fun _=>True)).r (y 4) W9:=hRW9 4 (by decide)
          have hy11:((aQ fun _=>True)).r (y 11) W9:=hRW9 11 (by decide)
          have hy13:((aQ fun _=>True)).r (y 13) W9:=hRW9 13 (by decide)
          have hy14:((aQ fun _=>True)).r (y 14) W9:=hRW9 14 (by decide)
          have hy15:((aQ fun _=>True)).r (y 15) W9:=hRW9 15 (by decide)
          have hy22:((aQ fun v => ∃x:Int,v = .int .i64 x)).r (y 22) W9:=hRW9 22 (by decide)
          have hy23:((aQ fun v => ∃u,v = .bool u)).r (y 23) W9:=hRW9 23 (by decide)
          have hy24:((aQ fun v => ∃u,v = .bool u)).r (y 24) W9:=hRW9 24 (by decide)
          clear hRW9
          have hbJ:=hbW9.1
          obtain⟨a9,c9,l9,hm9,hs9⟩:=hbJ
          have fx9:=hbW9.2.1
          have ho9:=Lib.hid hbW9.2.2.1
          obtain⟨β,hβ⟩:=hy24
          rw[hβ]
          clear hbW9 hm8 hs8 fx8 ho8 hβ
          have hnu:Hid (n<ct∧¬(n:Int)∈(fi0.map PF.fi).flatMap Fi.b++xs):=Lib.hid ⟨hnc,fun hmem=>by
           have e1:=hF8.out.1.fi
           unfold ko at hu
           rw[vD,e1] at hu
           have h2:¬(n:Int)∈oN (fi0++[(⟨x,xa,xs,xc⟩:PF)]):=of_decide_eq_false hu
           refine h2 ?_
           unfold oN
           rw[List.flatMap_append]
           rcases List.mem_append.1 hmem with h3|h3
           ·rw[List.flatMap_map] at h3
            exact List.mem_append_left _ h3
           ·exact List.mem_append_right _ (by simpa using h3)⟩
          go_wp2
          go_meet
          case rel=>exact⟨β,a9,c9,l9,rfl,hm9,hs9,fx9,ho9,Lib.hid fun _=>hnu.out⟩
        ·have hdn:¬(n:Int)<(ct:Int):=by omega
         refine aG 25 [_,_,_,_,_,_,_,_,_,_,_,_,_,_,_,_,_,_,_,_,_,_,_,_,.v (.bool false)] (Gk rfl (Gk rfl (Gb (.bool false) (by simp[go_sem,hdn]) rfl rfl rfl rfl rfl (Gk rfl (Gk rfl (Gk rfl (Gk rfl (Gk rfl (Gk rfl (Gk rfl (Gk rfl (Gk rfl (Gk rfl (Gk rfl (Gk rfl (Gk rfl (Gk rfl (Gk rfl (Gk rfl (Gk rfl (Gk rfl (Gk rfl (Gk rfl (Gk rfl (Gk rfl (aB)))))))))))))))))))))))))) (fun _=>rfl) rfl ?_
         intro y W9 hbW9 _
         have hm9:=hm8.below hbW9
         have hs9:=(MS.refl wc b S8).below hbW9
         have fx9:=fx8.ext hbW9
         have ho9:=Lib.hid (ho8.out.1.below hbW9)
         clear hbW9 hm8 fx8 ho8
         go_wp2
         go_meet
         case rel=>exact⟨false,S8.al,S8.cl,S8.l,rfl,hm9,hs9,fx9,ho9,Lib.hid fun e=>(by cases e)⟩
       case rest=>
       obtain⟨β,a9,c9,l9,rfl,hm9,hs9,fx9,ho9,hβ⟩:=hcut
       have hap:=Lib.hid ho8.out.2
       have hs9:=hs8.trans hs9
       have hF9:Hid (zo f s ct S3.H.asl fi0 bk qu (S8.lst a9 c9 l9)∧Fb ct bk qu (fi0.map PF.fi) xs∧xs.length=i):=Lib.hid ⟨hF8.out.1.lst _ _ _,hF8.out.2⟩
       have hkf9:Hid (¬iY b (S8.lst a9 c9 l9) gf0):=hkf8
       have hkx9:Hid (∀g,(lY ⟨x,xa,xs,xc⟩).ownBlock=some g→¬iY b (S8.lst a9 c9 l9) g):=hkx8
       clear hm8 hs8 hF8 fx8 ho8 hkf8 hkx8
       generalize S8.lst a9 c9 l9=S9 at hm9 hs9 hF9 hkf9 hkx9
       go_upto_if 109 with (fail)
       have hF8l:Hid (xs.length=i):=Lib.hid hF9.out.2.2
       have hF10l:Hid (xs.length≤C):=Lib.hid (by have:=hF9.out.2.2;omega)
       go_cut [13] (fun s13 wx => ∃(v:Int) (S:MW) (bk:List Page) (qu:List (Int × Page)),s13 = .int .i64 v∧dm wx b b S∧MS w6 b S6 wx S∧Hid (¬iY b S gf0)∧Hid (zo f s ct S3.H.asl fi0 bk qu S∧Fb ct bk qu (fi0.map PF.fi) (xs++[v]))∧aF wx gf0 (gZ ⟨x,xa,xs,xc⟩) 67∧Hid (Own wx b 3 1 (lY ⟨x,xa,xs,xc⟩) xs.length (xs.map dL)))
       case first=>
        cases β with
        | false=>
         go_wp2
         go_meet
         case rel=>exact⟨-1,S9,bk,qu,rfl,hm9,hs9,hkf9,Lib.hid ⟨hF9.out.1,hF9.out.2.1.none⟩,fx9,ho9⟩
        | true=>
         have hnn:=Lib.hid (hβ.out rfl)
         clear hβ
         go_wp2_with fail
         refine (pE S9 b b _ hm9).mono ?_
         rintro r w10 ⟨P,a10,c10,l10,rfl,hm10,hs10⟩
         have fx10:=hs10.blkN fx9 hkf9.out
         have ho10:Hid (Own w10 b 3 1 (lY ⟨x,xa,xs,xc⟩) xs.length (xs.map dL)):=Lib.hid (hs10.ownN ho9.out hkx9.out)
         have hs10:=hs9.trans hs10
         have hF10:Hid (zo f s ct S3.H.asl fi0 bk qu (S9.lst a10 c10 l10)∧Fb ct bk qu (fi0.map PF.fi) xs∧xs.length=i):=Lib.hid ⟨hF9.out.1.lst _ _ _,hF9.out.2⟩
         have hkf10:Hid (¬iY b (S9.lst a10 c10 l10) gf0):=hkf9
         have hkx10:Hid (∀g,(lY ⟨x,xa,xs,xc⟩).ownBlock=some g→¬iY b (S9.lst a10 c10 l10) g):=hkx9
         clear hm9 hs9 hF9 fx9 ho9 hkf9 hkx9
         generalize S9.lst a10 c10 l10=S10 at hm10 hs10 hF10 hkf10 hkx10
         go_wp2_with (refine aH rfl _ _ _ rfl (dW P) rfl rfl rfl psize (eD P) ?_)
         intro w11 hb11 px11
         have hm11:=hm10.below hb11
         have hs11:=hs10.below hb11
         have fx11:=fx10.ext hb11
         have ho11:Hid (Own w11 b 3 1 (lY ⟨x,xa,xs,xc⟩) xs.length (xs.map dL)):=Lib.hid (ho10.out.below hb11)
         have hnp:=Lib.hid (hm10.new (Nat.le_refl _))
         have hp0:=Lib.hid hs10.size
         have hpB:b≤w10.heap.size:=hm10.bs
         have hpf:Hid (w10.heap.size≠gf0):=Lib.hid (fun e=>by have:=fx10.lt;omega)
         clear hm10 hs10 fx10 ho10 hb11
         generalize w10.heap.size=gp at *
         go_upto_region 21 with (fail)
         go_loopw [113] (fun j wr => ∃k:Nat,k≤8∧j = .int .i64 k∧dm wr b b S10∧MS w6 b S6 wr S10∧aF wr gp (dW (fA P (x-(i:Int)*8) k)) 79∧aF wr gf0 (gZ ⟨x,xa,xs,xc⟩) 67∧Hid (Own wr b 3 1 (lY ⟨x,xa,xs,xc⟩) xs.length (xs.map dL))) (fun j _=>8-(intOf j).toNat)
         case atStart=>exact⟨0,by omega,rfl,hm11,hs11,by rw[show fA P (x-(i:Int)*8) 0=P from by ext j hj;simp[fA]];exact px11,fx11,ho11⟩
         case round=>
          clear hm11 hs11 px11 fx11 ho11
          obtain⟨k,hk,rfl,hm,hs,px,fx,ho⟩:=hrel
          by_cases hk8:k<8
          ·have hki:(k:Int)<8:=by omega
           have hcf:=fx.cell
           unfold gZ at hcf
           have hw1:IntKind.i64.wrap (8*(i:Int))=8*(i:Int):=IntWalk.i64_in _ (by omega)
           have hw2:IntKind.i64.wrap (8*(i:Int)+(k:Int))=8*(i:Int)+(k:Int):=IntWalk.i64_in _ (by omega)
           by_cases hge:x≤8*(i:Int)+k
           ·have hset:Hid ((dW (fA P (x-(i:Int)*8) k)).setIfInBounds k (.int .u8 0)=dW (fA P (x-(i:Int)*8) (k+1))):=Lib.hid (by
             rw[←uw P _ k hk8 (by omega)];exact vM _ k hk8 0)
            generalize hT:fA P (x-(i:Int)*8) k=T at px hset
            clear hT
            go_wp2_with (refine aC rfl _ _ _ rfl gp k _ [.int .u8 0] rfl rfl rfl _ _ px (by show k+1≤8;omega) (by kernel_rfl) (fun u hu=>by cases List.mem_singleton.1 hu;rfl) ?_)
            intro w12 px12 hg12
            rw[jv,hset.out] at px12
            have hm12:=hm.locT px (by decide) hnp.out hpB hg12
            have hs12:=hs.loc hg12 hp0.out
            have fx12:=fx.grown hg12 (fun e=>hpf.out (by have:=Option.some.inj e;omega))
            have ho12:Hid (Own w12 b 3 1 (lY ⟨x,xa,xs,xc⟩) xs.length (xs.map dL)):=Lib.hid (ak ho.out px (by decide) hg12)
            clear hm hs px hg12 hcf fx ho
            go_wp2
            go_roundw
            case rel=>exact⟨k+1,by omega,by go_num,hm12,hs12,px12,fx12,ho12⟩
            case measure=>simp[intOf];omega
           ·have hset:fA P (x-(i:Int)*8) k=fA P (x-(i:Int)*8) (k+1):=by
             ext j hj
             simp only[fA,Vector.getElem_ofFn]
             by_cases e:x-(i:Int)*8≤(j:Int)
             ·rw[if_neg (by omega),if_neg (by omega)]
             ·rw[if_neg (by omega),if_neg (by omega)]
            rw[hset] at px
            clear hset
            go_wp2
            go_roundw
            case rel=>exact⟨k+1,by omega,by go_num,hm,hs,px,fx,ho⟩
            case measure=>simp[intOf];omega
          ·have hki:¬(k:Int)<8:=by omega
           rw[tu _ _ k (by omega)] at px
           generalize dS P (x-(i:Int)*8)=PC at px
           have hncn:n<ct:=hnn.out.1
           have hdl:S10.H.dk.blocks.length=ct:=by rw[hF10.out.1.dk];exact hF10.out.2.1.cl.1
           obtain⟨g,off,cap,cur,hv,hgB,hg,hgs,hgc,hgw⟩:=hm.ma.dk.b.put jF (by decide) n (by rw[hdl];exact hncn)
           have hdb:S10.H.db=some ⟨g,off,none⟩:=(Value.slice.inj hv).1
           have hgw':=Lib.hid hgw
           have hdl':=Lib.hid hdl
           have hdb':=Lib.hid hdb
           have hpg:Hid (gp≠g):=Lib.hid (fun e=>hnp.out (by rw[e];exact .inr (by simp only[dZ,hdb];simp[oB,Value.ownBlock])))
           have hfg:Hid (gf0≠g):=Lib.hid (fun e=>hkf10.out (by rw[e];exact .inr (by simp only[dZ,hdb];simp[oB,Value.ownBlock])))
           have hkg:Hid (iY b S10 g):=Lib.hid (.inr (by simp only[dZ,hdb];simp[oB,Value.ownBlock]))
           clear hv hgc hgw hdl hdb
           go_upto_region 26 with (fail)
           refine aG 9 [_,_,_,_,_,_,_,_,_] (Gk rfl (Gk rfl (Gf b 1 rfl rfl (Gf b 6 rfl rfl (Gf b 6 rfl rfl (Gl hm.blk (V:=.slice (some ⟨g,off,none⟩) ct S10.H.cdb) (by simp[eP,hdb'.out,hdl'.out]) rfl rfl rfl rfl (Gk rfl (Gr (.agg #[.int .u8 PC[0].toNat,.int .u8 PC[1].toNat,.int .u8 PC[2].toNat,.int .u8 PC[3].toNat,.int .u8 PC[4].toNat,.int .u8 PC[5].toNat,.int .u8 PC[6].toNat,.int .u8 PC[7].toNat]) (fun ρ y W hb hKn=>(bV rfl (aA rfl hKn) (bQ (px.ext hb) 0 8) Tryz.underlying79 rfl (by kernel_rfl))) rfl rfl (Gr (.pointer (some ⟨g,off+n*8,none⟩)) (fun ρ y W hb hKn=>(aU rfl (aA rfl hKn) (aA rfl hKn) hncn Tryz.underlying31 psize)) rfl rfl (aB)))))))))) (fun _=>rfl) rfl ?_
           intro y W13 hbW13 _
           have hm13:=hm.below hbW13
           have hs13:=hs.below hbW13
           have px13:=px.ext hbW13
           have fx13:=fx.ext hbW13
           have ho13:=Lib.hid (ho.out.below hbW13)
           have hg13:=hg.ext hbW13
           clear hm hs px fx ho hg hbW13
           go_wp2_with (refine aC rfl _ _ _ rfl g (off+n*8) _ (vJ PC) rfl rfl rfl _ _ hg13 (by show off+n*8+8≤cur.size;omega) (by kernel_rfl) (bv (eD PC)) ?_)
           intro w14 hb14 hg14
           have hpo:=hgw'.out _ PC hb14
           have hm14:dm w14 b b { S10 with H:={ S10.H with dk:=⟨S10.H.dk.blocks.set n PC,S10.H.dk.queue⟩ } }:=hm13.putD hg13 hgB (by rw[hdb'.out];rfl) hg14 (l:=S10.H.dk.blocks.set n PC) (by simp) (by simpa using hpo)
           have hs14:MS w6 b S6 w14 { S10 with H:={ S10.H with dk:=⟨S10.H.dk.blocks.set n PC,S10.H.dk.queue⟩ } }:=hs13.put hg14 hkg.out (fun x hx => .inl hx)
           have px14:=px13.grown hg14 (fun e=>hpg.out (Option.some.inj e).symm)
           have fx14:=fx13.grown hg14 (fun e=>hfg.out (Option.some.inj e).symm)
           have ho14:Hid (Own w14 b 3 1 (lY ⟨x,xa,xs,xc⟩) xs.length (xs.map dL)):=Lib.hid (ak ho13.out hg13 (by decide) hg14)
           have hF14:Hid (zo f s ct S3.H.asl fi0 (bk.set n PC) qu { S10 with H:={ S10.H with dk:=⟨S10.H.dk.blocks.set n PC,S10.H.dk.queue⟩ } }):=Lib.hid (by
            have h9:=hF10.out.1
            exact⟨h9.m,h9.asl,h9.sl,h9.sw,by show (⟨S10.H.dk.blocks.set n PC,S10.H.dk.queue⟩:pR)=_;rw[h9.dk],h9.fi,h9.ct,h9.ca,h9.sp,h9.T⟩)
           have hkf14:Hid (¬iY b { S10 with H:={ S10.H with dk:=⟨S10.H.dk.blocks.set n PC,S10.H.dk.queue⟩ } } gf0):=hkf10
           have hnp14:Hid (¬iY b { S10 with H:={ S10.H with dk:=⟨S10.H.dk.blocks.set n PC,S10.H.dk.queue⟩ } } gp):=hnp
           have hkx14:Hid (∀g,(lY ⟨x,xa,xs,xc⟩).ownBlock=some g→¬iY b { S10 with H:={ S10.H with dk:=⟨S10.H.dk.blocks.set n PC,S10.H.dk.queue⟩ } } g):=hkx10
           clear hm13 hs13 px13 fx13 ho13 hg13 hpo hb14 hg14
           generalize { S10 with H:={ S10.H with dk:=⟨S10.H.dk.blocks.set n PC,S10.H.dk.queue⟩ } }=S14 at hm14 hs14 hF14 hkf14 hnp14 hkx14
           go_wp2_with fail
           refine (dH S14 2 b b _ hm14 (by omega)).mono ?_
           rintro r w15 ⟨z,a15,c15,l15,rfl,hm15,hs15,hz,_⟩
           have fx15:=hs15.blkN fx14 hkf14.out
           have px15:=hs15.blkN px14 hnp14.out
           have ho15:Hid (Own w15 b 3 1 (lY ⟨x,xa,xs,xc⟩) xs.length (xs.map dL)):=Lib.hid (hs15.ownN ho14.out hkx14.out)
           have hs15:=hs14.trans hs15
           have hF15:Hid (zo f s ct S3.H.asl fi0 (bk.set n PC) qu (S14.lst a15 c15 l15)):=Lib.hid (hF14.out.lst _ _ _)
           have hkf15:Hid (¬iY b (S14.lst a15 c15 l15) gf0):=hkf14
           have hnp15:Hid (¬iY b (S14.lst a15 c15 l15) gp):=hnp14
           have hkx15:Hid (∀g,(lY ⟨x,xa,xs,xc⟩).ownBlock=some g→¬iY b (S14.lst a15 c15 l15) g):=hkx14
           clear hm14 hs14 fx14 px14 ho14 hF14 hkf14 hnp14 hkx14
           generalize S14.lst a15 c15 l15=S15 at hm15 hs15 hF15 hkf15 hnp15 hkx15
           by_cases hz1:z=1
           ·subst hz1
            have hql:S15.H.dk.queue.length≤100:=by
             have h1:=hF10.out.2.1.ql
             have h2:=hF10.out.2.2
             have h3:=hl0.out
             rw[hF15.out.dk]
             rw[List.length_map] at h1
             show qu.length≤100
             omega
            have hnb:Hid (∀g,(Value.slice S15.H.dq S15.H.dk.queue.length S15.H.cdq).ownBlock=some g→g≠b∧∀t∈[(gp,dW PC,79),(gf0,gZ ⟨x,xa,xs,xc⟩,67)],t.1≠g):=Lib.hid (fun g hg=>by
             obtain⟨cs,hk⟩:=ic hm15.ma.dk.q g hg
             refine⟨fun e=>lQ hk hm15.blk (by decide) e,fun t ht => ?_⟩
             simp only[List.mem_cons,List.not_mem_nil,or_false] at ht
             rcases ht with rfl|rfl
             ·exact lQ px15 hk (by decide)
             ·exact lQ fx15 hk (by decide))
            have hks:Hid (∀t∈[(gp,dW PC,79),(gf0,gZ ⟨x,xa,xs,xc⟩,67)],aF w15 t.1 t.2.1 t.2.2):=Lib.hid (fun t ht=>by
             simp only[List.mem_cons,List.not_mem_nil,or_false] at ht
             rcases ht with rfl|rfl
             ·exact px15
             ·exact fx15)
            go_upto_region 28 with (fail)
            refine dN 16 [_,_,_,_,_,_,.v (.slice S15.H.dq S15.H.dk.queue.length S15.H.cdq),_,.v (.agg (dW PC)),.v (.agg (Ai ((n:Int),PC))),.r 10 ((aQ fun _=>True)),.r 11 ((aQ fun _=>True)),_,_,_,_] (vR S15 b b w15 [(gp,dW PC,79),(gf0,gZ ⟨x,xa,xs,xc⟩,67)] 11 10 86 9 S15.H.dk.queue.length (.slice S15.H.dq S15.H.dk.queue.length S15.H.cdq) (S15.H.dk.queue.flatMap uK) (uK ((n:Int),PC))) dB (fun y=>Ip hm15 hks.out y) (Qk dB rfl (Qk dB rfl (Qk dB rfl (Qf dB b 1 rfl rfl (Qf dB b 6 rfl rfl (Qf dB b 7 rfl rfl (ag ?_ (Qk dB rfl (ag ?_ (ag ?_ (ag ?_ (ag ?_ (Qk dB rfl (Qf dB b 1 rfl rfl (Qf dB b 6 rfl rfl (Qf dB b 7 rfl rfl (aB) (fun _ _ _ _ hLd h=>dJ (by decide) h)) (fun _ _ _ _ hLd h=>dJ (by decide) h)) (fun _ _ _ _ hLd h=>dJ (by decide) h)) (fun _ _ _ _ hLd h=>dJ (by decide) h)))))) (fun _ _ _ _ hLd h=>dJ (by decide) h))) (fun _ _ _ _ hLd h=>dJ (by decide) h)) (fun _ _ _ _ hLd h=>dJ (by decide) h)) (fun _ _ _ _ hLd h=>dJ (by decide) h)) (fun _ _ _ _ hLd h=>dJ (by decide) h)) (fun _ _ _ _ hLd h=>dJ (by decide) h)) (fun _ _ _ _ hLd h=>dJ (by decide) h)) (fun _=>rfl) rfl ?_
            ·intro ρ y W L hw hn hLi hLd hb hd
             refine bY dB (fun _ _ h=>dJ (by decide) h) hb ?_
             have E143:=hw 143 5 rfl
             have h5:y 5=_:=hd 5 rfl
             have m1:=hb.1.1
             refine aj (.slice S15.H.dq S15.H.dk.queue.length S15.H.cdq) (ah rfl) (by simp[execOp,go_sem,E143,h5,m1.cell,eP]) rfl
            ·intro ρ y W L hw hn hLi hLd hb hd
             refine bY dB (fun _ _ h=>dJ (by decide) h) hb ?_
             have E15:ρ (.tmp 15) = .pointer (some ⟨gp,0,none⟩):=(hn (.tmp 15) rfl).trans rfl
             have m3:=hb.1.2 _ List.mem_cons_self
             refine aj (.agg (dW PC)) (ah rfl) (aX rfl E15 m3 Tryz.underlying79 rfl psize) rfl
            ·intro ρ y W L hw hn hLi hLd hb hd
             refine bY dB (fun _ _ h=>dJ (by decide) h) hb ?_
             have E145:=hw 145 7 rfl
             have h7:y 7=_:=hd 7 rfl
             have E146:=hw 146 8 rfl
             have h8:y 8=_:=hd 8 rfl
             refine aj (.agg (Ai ((n:Int),PC))) (ah rfl) (by simp[execOp,go_sem,E145,h7,E146,h8,dW,Ai]) rfl
            ·intro ρ y W L hw hn hLi hLd hb hd;have E147:=hw 147 9 rfl;have h9:y 9=_:=hd 9 rfl
             refine bL (.slice (some ⟨W.heap.size,0,none⟩) 1 1) (ah rfl) ?_ (IZ (W':=W.alloc (.cells (Ai ((n:Int),PC)) 86)) (by decide) ((Below.refl _ _).alloc (Nat.le_refl _) _) hb ⟨Nat.le_refl _,by unfold maxLen;omega,fun e=>(by cases e),cZ.new _ _ _⟩) trivial
             simp[execOp,go_sem,E147.trans h9,Ai]
            ·intro ρ y W L hw hn hLi hLd hb hd;have E144:=hw 144 6 rfl;have h6:y 6=_:=hd 6 rfl;have E148:=hw 148 10 rfl;have h10:=hd 10 rfl
             have hm:=(hb.2.1 hLi).1
             obtain⟨a,e,hx1,hx2⟩:=hb.2.2.1 (hLd 10 rfl) hLi
             have hpv:Own W b 86 9 (.slice S15.H.dq S15.H.dk.queue.length S15.H.cdq) S15.H.dk.queue.length (S15.H.dk.queue.flatMap uK):=hm.ma.dk.q
             refine dM (ah rfl) (gL _ _ _ rfl b 86 _ 9 16 Tryz.underlying32 put_info rfl (by decide) (.slice S15.H.dq S15.H.dk.queue.length S15.H.cdq) S15.H.dk.queue.length _ (E144.trans h6) hpv a 1 e (uK ((n:Int),PC)) (E148.trans hx1) hx2.nl hx2.le rfl hx2.rd (bv (Ej _)) (by unfold maxLen;omega) (by omega) hm.bs) (fun v W1 h=>Jz hLi hb h.2.1 hnb.out h.1 h.2.2) (fun _ _ _=>trivial)
            intro y W16 hbW16 hRW16
            have hy10:((aQ fun _=>True)).r (y 10) W16:=hRW16 10 (by decide)
            have hy11:((aQ fun _=>True)).r (y 11) W16:=hRW16 11 (by decide)
            clear hRW16
            obtain⟨wq,hmq,hsq,hgq,hoq,hsnq⟩:=hbW16.2.2.2 rfl
            have hbk16:=hbW16.1.1
            have fx16:aF W16 gf0 (gZ ⟨x,xa,xs,xc⟩) 67:=hbW16.1.2 _ (List.mem_cons_of_mem _ List.mem_cons_self)
            have ho16:Hid (Own W16 b 3 1 (lY ⟨x,xa,xs,xc⟩) xs.length (xs.map dL)):=Lib.hid (by
             have h1:=hsq.ownN ho15.out hkx15.out
             rcases lW hmq.ma.dk.q hgq with hb0|⟨g,cs,hk,_,hg'⟩
             ·exact h1.below hb0
             ·exact ak h1 hk (by decide) hg')
            have hsq':=Lib.hid hsq
            have hs16:=hs15.trans hsq
            obtain⟨aq,cq,hyq,_⟩:=hoq.rd
            rw[hyq] at hoq hsnq ⊢
            clear hyq hbW16 hm15 hs15 px15 fx15 ho15 hsq hks hnb
            go_wp2_with (refine aC rfl _ _ _ rfl b 7 _ [.slice aq (S15.H.dk.queue.length+1) cq] rfl rfl rfl _ _ hbk16 (by show 7+1≤13;omega) (by kernel_rfl) (fun u hu=>by cases List.mem_singleton.1 hu;rfl) ?_)
            intro w17 hb17 hg17
            have hlen:(S15.H.dk.queue++[((n:Int),PC)]).length=S15.H.dk.queue.length+1:=by simp
            have hoq' : Own W16 b 86 9 (.slice aq (S15.H.dk.queue++[((n:Int),PC)]).length cq) (S15.H.dk.queue++[((n:Int),PC)]).length ((S15.H.dk.queue++[((n:Int),PC)]).flatMap uK):=by
             rw[hlen,List.flatMap_append];simpa using hoq
            have hm17:=hmq.appQ hgq hoq' (by rw[hlen];exact hb17) hg17
            have hn17:∀x,iY b { S15 with H:={ S15.H with dq:=aq,cdq:=cq,dk:=⟨S15.H.dk.blocks,S15.H.dk.queue++[((n:Int),PC)]⟩ } } x→iY b S15 x∨oB aq=some x:=fun x hx=>by
             rcases hx with hx|hx
             ·exact .inl (.inl hx)
             ·simp only[dZ,List.mem_cons,List.not_mem_nil,or_false] at hx
              rcases hx with hx|hx|hx|hx|hx|hx|hx|hx|hx<;>first|exact .inr hx.symm|exact .inl (.inr (by simp[dZ,hx]))
            have hs17:=hs16.app hmq hmq.ma.dk.q (by simp[dZ]) hgq hg17 hsnq hn17
            have hqN:Hid (¬iY b { S15 with H:={ S15.H with dq:=aq,cdq:=cq,dk:=⟨S15.H.dk.blocks,S15.H.dk.queue++[((n:Int),PC)]⟩ } } gf0):=Lib.hid (fun hk=>(hn17 gf0 hk).elim hkf15.out fun e=>lQ (fD hoq' e).2.choose_spec fx16 (by decide) rfl)
            have fx17:=fx16.grown hg17 (fun e=>hkf15.out (.inl (Option.some.inj e).symm))
            have ho17:Hid (Own w17 b 3 1 (lY ⟨x,xa,xs,xc⟩) xs.length (xs.map dL)):=Lib.hid (ak ho16.out hbk16 (by decide) hg17)
            have hF17:Hid (zo f s ct S3.H.asl fi0 (bk.set n PC) (qu++[((n:Int),PC)]) { S15 with H:={ S15.H with dq:=aq,cdq:=cq,dk:=⟨S15.H.dk.blocks,S15.H.dk.queue++[((n:Int),PC)]⟩ } }∧Fb ct (bk.set n PC) (qu++[((n:Int),PC)]) (fi0.map PF.fi) (xs++[(n:Int)])):=Lib.hid (by
             have h9:=hF15.out
             exact⟨⟨h9.m,h9.asl,h9.sl,h9.sw,by show (⟨S15.H.dk.blocks,S15.H.dk.queue++[((n:Int),PC)]⟩:pR)=_;rw[h9.dk],h9.fi,h9.ct,h9.ca,h9.sp,h9.T⟩,hF10.out.2.1.wait hnn.out.1 hnn.out.2 PC⟩)
            clear hmq hgq hoq hsnq hbk16 fx16 ho16 hs16 hb17 hlen hoq' hg17 hn17
            go_wp2
            go_meet
            case rel=>exact⟨(n:Int),_,_,_,rfl,hm17,hs17,hqN,hF17,fx17,ho17⟩
           ·have hF17:Hid (zo f s ct S3.H.asl fi0 (bk.set n PC) qu S15∧Fb ct (bk.set n PC) qu (fi0.map PF.fi) (xs++[(n:Int)])):=Lib.hid ⟨hF15.out,hF10.out.2.1.some hnn.out.1 hnn.out.2 PC⟩
            go_wp2
            go_meet
            case rel=>exact⟨(n:Int),S15,_,_,rfl,hm15,hs15,hkf15,hF17,fx15,ho15⟩
       case rest=>
       obtain⟨v,S,bk,qu,rfl,hm,hs,hkf,hF,fx,ho⟩:=hcut
       clear hm9 hs9 hF9 fx9 ho9 hkf9 hkx9
       have hcf:=fx.cell
       unfold gZ at hcf
       have hF':=Lib.hid hF.out.2
       have hxl:xs.length≤100:=by
        have h1:=hF10l.out
        omega
       have hlw:=Lib.hid hxl
       go_wp2_with (at_builtin;go_must (refine jm rfl _ _ 29 rfl b 3 (.int .i64 0) 1 8 Tryz.underlying29 int_info rfl (by decide) (lY ⟨x,xa,xs,xc⟩) xs.length (xs.map dL) rfl (ho.out.alloc _) (some ⟨wc.heap.size,0,none⟩) 1 1 [dL v] rfl (fun h=>(by cases h)) (Nat.le_refl _) rfl (cZ.new _ #[dL v] _) (by simp[dL,Value.oneCell']) (by unfold maxLen;omega) (by omega) (dz hm.bs _) ?_))
       intro v2 w2 own2 hg2 hsn2
       have hal:=(Below.refl wc.heap.size wc).alloc (Nat.le_refl _) (.cells #[dL v] 3)
       have hm1:=hm.below hal
       have hs1:=hs.below hal
       have fx1:=fx.ext hal
       have ho1:Own (wc.alloc (.cells #[dL v] 3)) b 3 1 (.slice xa xs.length xc) xs.length (xs.map dL):=ho.out.below hal
       obtain⟨a2,c2,hv2,_⟩:=own2.rd
       rw[hv2] at own2 hsn2 ⊢
       have hge2:Hid (∀g,oB a2=some g→w6.heap.size≤g∧oB S3.H.asl≠some g∧∀p∈fi0,oB p.a≠some g):=Lib.hid (fun g hg=>by
        rcases hsn2 with e1|e1
        ·unfold lY at e1
         rw[iK,iK] at e1
         exact hap.out g (by rw[←e1];exact hg)
        ·have h1:=e1 g (by rw[iK];exact hg)
         refine⟨Nat.le_trans hs1.size h1,fun e => ?_,fun p hp e => ?_⟩
         ·exact absurd h1 (Nat.not_le.2 (fD hm1.ma.sl (by rw[hF.out.1.asl];exact e)).2.choose_spec.lt)
         ·rw[←hF.out.1.fi] at hp
          obtain⟨k,hk,rfl⟩:=List.mem_iff_getElem.1 hp
          exact absurd h1 (Nat.not_le.2 (fD (hm1.ma.st.each k _ (List.getElem?_eq_getElem hk)) e).2.choose_spec.lt))
       have hm2:dm w2 b b S:=by
        rcases lW ho1 hg2 with hb0|⟨g,cs,hk,hga,hg'⟩
        ·exact hm1.below hb0
        ·exact hm1.locI hk (hm1.kb_int hk (by rw[hF.out.1.asl];exact (hap.out g hga).2.1)) (by rw[hF.out.1.fi];exact (hap.out g hga).2.2) (fD ho1 hga).1 hg'
       have hs2:MS w6 b S6 w2 S:=by
        rcases lW ho1 hg2 with hb0|⟨g,cs,hk,hga,hg'⟩
        ·exact hs1.below hb0
        ·exact hs1.loc hg' (hap.out g hga).1
       have fx2:aF w2 gf0 (gZ ⟨x,xa,xs,xc⟩) 67:=by
        rcases lW ho1 hg2 with hb0|⟨g,cs,hk,hga,hg'⟩
        ·exact fx1.ext hb0
        ·exact bD fx1 hk (by decide) hg'
       clear hcf hm hs fx hm1 hs1 fx1 ho1 hg2 hsn2 hal ho hv2
       go_wp2_with (refine aC rfl _ _ _ rfl gf0 1 _ [.slice a2 (xs.length+1) c2] rfl rfl rfl _ _ fx2 (by show 1+1≤2;omega) (by kernel_rfl) (fun u hu=>by cases List.mem_singleton.1 hu;rfl) ?_)
       intro w3 hb3 hg3
       have hxl1:(xs++[v]).length=xs.length+1:=by simp
       have fx3:aF w3 gf0 (gZ ⟨x,a2,xs++[v],c2⟩) 67:=by
        have e:gZ ⟨x,a2,xs++[v],c2⟩=bC (gZ ⟨x,xa,xs,xc⟩) 1 [.slice a2 (xs.length+1) c2]:=by
         unfold gZ
         dsimp only
         rw[hxl1]
         kernel_rfl
        rw[e];exact hb3
       have hm3:=hm2.locT fx2 (by decide) hkf.out hgB hg3
       have hs3:=hs2.loc hg3 hg6.out
       have ho3:Hid (Own w3 b 3 1 (lY ⟨x,a2,xs++[v],c2⟩) (xs++[v]).length ((xs++[v]).map dL)∧∀g,oB a2=some g→w6.heap.size≤g∧oB S3.H.asl≠some g∧∀p∈fi0,oB p.a≠some g):=Lib.hid ⟨by
        have h1:=ak own2 fx2 (by decide) hg3
        unfold lY
        dsimp only
        rw[hxl1,List.map_append]
        exact h1,hge2.out⟩
       have hF3:Hid (zo f s ct S3.H.asl fi0 bk qu S∧Fb ct bk qu (fi0.map PF.fi) (xs++[v])∧(xs++[v]).length=i+1):=Lib.hid ⟨hF.out.1,hF.out.2,by rw[hxl1,hF8l.out]⟩
       clear hm2 hs2 fx2 own2 hb3 hg3 hxl1 hxl
       go_wp2
       go_roundw
       case rel=>exact⟨i+1,S,bk,qu,xs++[v],a2,c2,by omega,by go_num,hm3,hs3,hkf,hF3,fx3,ho3⟩
       case measure=>simp[intOf];omega
      ·have hii:¬(i:Int)<(C:Int):=by omega
       have hiC' : i=C:=by omega
       subst hiC'
       have hfl5:S.H.fi.length≤5:=by rw[hI.out.1.fi];have:=hl0.out;omega
       have hkaf:∀g,(Value.slice S.H.ai S.H.fi.length S.H.ci).ownBlock=some g→iY b S g:=fun g hg => .inr (by rw[iK] at hg;simp[dZ,hg])
       have hnb:Hid (∀g,(Value.slice S.H.ai S.H.fi.length S.H.ci).ownBlock=some g→g≠b∧∀t∈[(gf0,gZ ⟨x,xa,xs,xc⟩,67)],t.1≠g):=Lib.hid (fun g hg=>by
        obtain⟨cs,hk⟩:=ic hm.ma.st.own g hg
        refine⟨fun e=>lQ hk hm.blk (by decide) e,fun t ht => ?_⟩
        rw[List.mem_singleton.1 ht]
        intro e
        exact hkf'.out (by rw[show gf0=g from e];exact hkaf g hg))
       have hks:Hid (∀t∈[(gf0,gZ ⟨x,xa,xs,xc⟩,67)],aF wr t.1 t.2.1 t.2.2):=Lib.hid (fun t ht=>by rw[List.mem_singleton.1 ht];exact fx)
       go_upto_region 31 with (fail)
       refine dN 14 [_,_,_,_,_,_,.v (.slice S.H.ai S.H.fi.length S.H.ci),.v (.agg (gZ ⟨x,xa,xs,xc⟩)),.r 8 ((aQ fun _=>True)),.r 9 ((aQ fun _=>True)),_,_,_,_] (vR S b b wr [(gf0,gZ ⟨x,xa,xs,xc⟩,67)] 9 8 67 2 S.H.fi.length (.slice S.H.ai S.H.fi.length S.H.ci) (S.H.fi.flatMap pG) (pG ⟨x,xa,xs,xc⟩)) dB (fun y=>Ip hm hks.out y) (Qk dB rfl (Qk dB rfl (Qk dB rfl (Qf dB b 1 rfl rfl (Qf dB b 8 rfl rfl (Qf dB b 8 rfl rfl (ag ?_ (ag ?_ (ag ?_ (ag ?_ (Qk dB rfl (Qf dB b 1 rfl rfl (Qf dB b 8 rfl rfl (Qf dB b 8 rfl rfl (aB) (fun _ _ _ _ hLd h=>dJ (by decide) h)) (fun _ _ _ _ hLd h=>dJ (by decide) h)) (fun _ _ _ _ hLd h=>dJ (by decide) h)) (fun _ _ _ _ hLd h=>dJ (by decide) h)))))) (fun _ _ _ _ hLd h=>dJ (by decide) h)) (fun _ _ _ _ hLd h=>dJ (by decide) h)) (fun _ _ _ _ hLd h=>dJ (by decide) h)) (fun _ _ _ _ hLd h=>dJ (by decide) h)) (fun _ _ _ _ hLd h=>dJ (by decide) h)) (fun _ _ _ _ hLd h=>dJ (by decide) h)) (fun _=>rfl) rfl ?_
       ·intro ρ y W L hw hn hLi hLd hb hd
        refine bY dB (fun _ _ h=>dJ (by decide) h) hb ?_
        have E166:=hw 166 5 rfl
        have h5:y 5=_:=hd 5 rfl
        have m1:=hb.1.1
        refine aj (.slice S.H.ai S.H.fi.length S.H.ci) (ah rfl) (by simp[execOp,go_sem,E166,h5,m1.cell,eP]) rfl
       ·intro ρ y W L hw hn hLi hLd hb hd
        refine bY dB (fun _ _ h=>dJ (by decide) h) hb ?_
        have E11:ρ (.tmp 11) = .pointer (some ⟨gf0,0,none⟩):=(hn (.tmp 11) rfl).trans rfl
        have m3:=hb.1.2 _ List.mem_cons_self
        refine aj (.agg (gZ ⟨x,xa,xs,xc⟩)) (ah rfl) (aX rfl E11 m3 Tryz.underlying67 rfl file_size) rfl
       ·intro ρ y W L hw hn hLi hLd hb hd;have E168:=hw 168 7 rfl;have h7:y 7=_:=hd 7 rfl
        refine bL (.slice (some ⟨W.heap.size,0,none⟩) 1 1) (ah rfl) ?_ (IZ (W':=W.alloc (.cells (gZ ⟨x,xa,xs,xc⟩) 67)) (by decide) ((Below.refl _ _).alloc (Nat.le_refl _) _) hb ⟨Nat.le_refl _,by unfold maxLen;omega,fun e=>(by cases e),cZ.new _ _ _⟩) trivial
        simp[execOp,go_sem,E168.trans h7,gZ]
       ·intro ρ y W L hw hn hLi hLd hb hd;have E167:=hw 167 6 rfl;have h6:y 6=_:=hd 6 rfl;have E169:=hw 169 8 rfl;have h8:=hd 8 rfl
        have hm:=(hb.2.1 hLi).1
        obtain⟨a,e,hx1,hx2⟩:=hb.2.2.1 (hLd 8 rfl) hLi
        have hpv:Own W b 67 2 (.slice S.H.ai S.H.fi.length S.H.ci) S.H.fi.length (S.H.fi.flatMap pG):=hm.ma.st.own
        refine dM (ah rfl) (gL _ _ _ rfl b 67 _ 2 32 Tryz.underlying35 file_info rfl (by decide) (.slice S.H.ai S.H.fi.length S.H.ci) S.H.fi.length _ (E167.trans h6) hpv a 1 e (pG ⟨x,xa,xs,xc⟩) (E169.trans hx1) hx2.nl hx2.le rfl hx2.rd (bv (kC _)) (by unfold maxLen;omega) (by omega) hm.bs) (fun v W1 h=>Jz hLi hb h.2.1 hnb.out h.1 h.2.2) (fun _ _ _=>trivial)
       intro y W8 hbW8 hRW8
       have hy8:((aQ fun _=>True)).r (y 8) W8:=hRW8 8 (by decide)
       have hy9:((aQ fun _=>True)).r (y 9) W8:=hRW8 9 (by decide)
       clear hRW8
       obtain⟨wq,hmq,hsq,hgq,hoq,hsnq⟩:=hbW8.2.2.2 rfl
       have hbk8:=hbW8.1.1
       have hoxq:=hsq.ownN ho.out.1 (fun g hg=>by
        obtain⟨cs,hk⟩:=ic ho.out.1 g hg
        refine hm.kb_int hk ?_
        rw[hI.out.1.asl]
        exact (ho.out.2 g (by unfold lY at hg;rw[iK] at hg;exact hg)).2.1)
       have hs8:=hs.trans hsq
       obtain⟨aq,cq,hyq,_⟩:=hoq.rd
       rw[hyq] at hoq hsnq ⊢
       clear hyq hbW8 hm hs fx hsq hks hnb hkaf
       go_wp2_with (refine aC rfl _ _ _ rfl b 8 _ [.slice aq (S.H.fi.length+1) cq] rfl rfl rfl _ _ hbk8 (by show 8+1≤13;omega) (by kernel_rfl) (fun u hu=>by cases List.mem_singleton.1 hu;rfl) ?_)
       intro w17 hb17 hg17
       have hlen:(S.H.fi++[(⟨x,xa,xs,xc⟩:PF)]).length=S.H.fi.length+1:=by simp
       have hm17:dm w17 b b { S with H:={ S.H with ai:=aq,ci:=cq,fi:=S.H.fi++[(⟨x,xa,xs,xc⟩:PF)] } }:=hmq.appFi (p:=⟨x,xa,xs,xc⟩) hoxq (fun k p hp g hg hg'=>by
         unfold lY at hg hg'
         rw[iK] at hg hg'
         exact (ho.out.2 g hg').2.2 p (by rw[←hI.out.1.fi];exact List.mem_of_getElem? hp) hg) (fun g hg=>by rw[hI.out.1.asl];exact (ho.out.2 g hg).2.1) hgq (by rw[hlen];exact hoq) (by rw[hlen];exact hb17) hg17
       have hs17:MS w6 b S6 w17 { S with H:={ S.H with ai:=aq,ci:=cq,fi:=S.H.fi++[(⟨x,xa,xs,xc⟩:PF)] } }:=hs8.app hmq hmq.ma.st.own (by simp[dZ]) hgq hg17 hsnq (fun x hx=>by
        rcases hx with hx|hx
        ·exact .inl (.inl hx)
        ·simp only[dZ,List.mem_cons,List.not_mem_nil,or_false] at hx
         rcases hx with hx|hx|hx|hx|hx|hx|hx|hx|hx<;>first|exact .inr hx.symm|exact .inl (.inr (by simp[dZ,hx])))
       have hs17:=hs6.trans hs17
       have hI17:Hid (zo f s ct S3.H.asl (S.H.fi++[(⟨x,xa,xs,xc⟩:PF)]) bk qu { S with H:={ S.H with ai:=aq,ci:=cq,fi:=S.H.fi++[(⟨x,xa,xs,xc⟩:PF)] } }∧Fb ct bk qu ((S.H.fi++[(⟨x,xa,xs,xc⟩:PF)]).map PF.fi) []∧(S.H.fi++[(⟨x,xa,xs,xc⟩:PF)]).length=q+1∧(q+1=0→bk=List.replicate ct zPg∧qu=[]∧(l=[]→S.l=[]))):=Lib.hid (by
        have h9:=hI.out.1
        refine⟨⟨h9.m,h9.asl,h9.sl,h9.sw,h9.dk,rfl,h9.ct,h9.ca,h9.sp,h9.T⟩,?_,by rw[hlen,h9.fi,hl0q.out],fun e=>absurd e (by omega)⟩
        rw[List.map_append,h9.fi]
        exact hI.out.2.1.file (s:=x) (by omega) (by omega) (by rw[hI.out.2.2,hC'.out]))
       clear hmq hgq hoq hsnq hbk8 hoxq hs8 hb17 hlen hg17
       go_wp2
       go_roundw
       case rel=>exact⟨q+1,_,bk,qu,by omega,by go_num,hm17,hs17,hI17⟩
       case measure=>simp[intOf];omega
    ·have hqi:¬(q:Int)<(N:Int):=by omega
     have hbd:Hid (Bd S.H.ma S.T∧EI S∧S.H.sp.length=0∧S.H.m.fs.length=f∧S.H.dk.blocks.length=ct∧(l=[]→S.l=[]∧S.H.ma=tJ f s ct (List.replicate ct zPg) [] []∧S.T=[])):=Lib.hid (by
      obtain⟨h1,h2,h3,h4⟩:=hI.out
      refine⟨by rw[h1.ma,h1.T];exact h2.bd (by rw[List.length_map];omega) hf40 hs60,fun p hp=>(by rw[h1.sp] at hp;cases hp),by rw[h1.sp];rfl,by rw[h1.m];exact List.length_replicate,by rw[h1.dk];exact h2.cl.1,fun e => ?_⟩
      have hN0:=(hl5.out e).1
      have hq0:q=0:=by omega
      obtain⟨k1,k2,k3⟩:=h4 hq0
      refine⟨k3 e,?_,h1.T⟩
      have hf0:fi0=[]:=List.length_eq_zero_iff.1 (by omega)
      rw[h1.ma,k1,k2,hf0];rfl)
     clear hI
     go_wp2_with fail
     refine (dH S 2 b b _ hm (by omega)).mono ?_
     rintro r w6 ⟨z,a6,c6,l6,rfl,hm6,hs6,hz,hz0⟩
     have hs6:=hs.trans hs6
     have hzw:IntKind.i64.wrap (1+z)=1+z:=IntWalk.i64_in _ (by omega)
     obtain⟨M,hM⟩:∃M:Nat,1+z=(M:Int):=⟨(1+z).toNat,by omega⟩
     have hM2:1≤M∧M≤2:=by omega
     have hbd6:Hid (Bd (S.lst a6 c6 l6).H.ma (S.lst a6 c6 l6).T∧EI (S.lst a6 c6 l6)∧(S.lst a6 c6 l6).H.sp.length=0∧(S.lst a6 c6 l6).H.m.fs.length=f∧(S.lst a6 c6 l6).H.dk.blocks.length=ct∧(l=[]→(S.lst a6 c6 l6).l=[]∧(S.lst a6 c6 l6).H.ma=tJ f s ct (List.replicate ct zPg) [] []∧(S.lst a6 c6 l6).T=[])):=Lib.hid
      ⟨hbd.out.1,hbd.out.2.1,hbd.out.2.2.1,hbd.out.2.2.2.1,hbd.out.2.2.2.2.1,fun e=>⟨(hz0 (hbd.out.2.2.2.2.2 e).1).2,(hbd.out.2.2.2.2.2 e).2⟩⟩
     have hM1:Hid (l=[]→M=1):=Lib.hid (fun e=>by have:=(hz0 (hbd.out.2.2.2.2.2 e).1).1;omega)
     rw[hM] at hzw
     clear hm hs hbd hz hz0
     generalize S.lst a6 c6 l6=S6 at hm6 hs6 hbd6
     go_upto_region 34 with (fail)
     clear hM hzw
     go_loopw [179] (fun k wr => ∃(p:Nat) (S:MW),p≤M∧k = .int .i64 p∧dm wr b b S∧MS w4 b S3 wr S∧Hid (Bd S.H.ma S.T∧EI S∧S.H.sp.length=p∧S.H.m.fs.length=f∧S.H.dk.blocks.length=ct∧(l=[]→S.l=[]∧((p=0→S.H.ma=tJ f s ct (List.replicate ct zPg) [] []∧S.T=[])∧(p=1→S.H.ma = { tJ f s ct (List.replicate ct zPg) [] [] with sp:=[⟨true,[],zTb⟩] }∧S.T=[List.replicate 64 zEn]))))) (fun k _=>M-(intOf k).toNat)
     case atStart=>exact⟨0,S6,Nat.zero_le _,rfl,hm6,hs6,Lib.hid ⟨hbd6.out.1,hbd6.out.2.1,hbd6.out.2.2.1,hbd6.out.2.2.2.1,hbd6.out.2.2.2.2.1,fun e=>⟨(hbd6.out.2.2.2.2.2 e).1,fun _=>(hbd6.out.2.2.2.2.2 e).2,fun h=>(by cases h)⟩⟩⟩
     case round=>
      clear hm6 hs6 hbd6
      obtain⟨p,S,hp,rfl,hm,hs,hI⟩:=hrel
      by_cases hpM:p<M
      ·have hpi:(p:Int)<(M:Int):=by omega
       have hmoreR:∀(S' : MW),More S S'→(l=[]→p=0→S'.l=[]∧S'.H.ma = { S.H.ma with sp:=S.H.ma.sp++[⟨true,[],zTb⟩] }∧S'.T=S.T++[List.replicate 64 zEn])→Bd S'.H.ma S'.T∧EI S'∧S'.H.sp.length=p+1∧S'.H.m.fs.length=f∧S'.H.dk.blocks.length=ct∧(l=[]→S'.l=[]∧((p+1=0→S'.H.ma=tJ f s ct (List.replicate ct zPg) [] []∧S'.T=[])∧(p+1=1→S'.H.ma = { tJ f s ct (List.replicate ct zPg) [] [] with sp:=[⟨true,[],zTb⟩] }∧S'.T=[List.replicate 64 zEn]))):=fun S' hMo hn=>by
        obtain⟨h1,h2,h3,h4,h5,h6⟩:=hI.out
        refine⟨hMo.bd,hMo.fm,by rw[hMo.sp,h3],by rw[hMo.fs,h4],by rw[hMo.dk,h5],fun e => ?_⟩
        have hp0:p=0:=by have:=hM1.out e;omega
        obtain⟨k1,k2,k3⟩:=hn e hp0
        obtain⟨q1,q2⟩:=(h6 e).2.1 hp0
        refine⟨k1,fun h=>absurd h (by omega),fun _=>⟨by rw[k2,q1];rfl,by rw[k3,q2];rfl⟩⟩
       have hmoreR':=Lib.hid hmoreR
       clear hmoreR
       by_cases hp1:p=1
       ·subst hp1
        go_wp2_with fail
        refine (dH S 2 b b _ hm (by omega)).mono ?_
        rintro r w7 ⟨z2,a7,c7,l7,rfl,hm7,hs7,hz2,_⟩
        have hs7:=hs.trans hs7
        clear hm hs
        by_cases hz1:z2=1
        ·subst hz1
         go_wp2_with fail
         refine (Ga (S.lst a7 c7 l7) b b _ hm7 hI.out.1 hI.out.2.1 hI.out.2.2.1).mono ?_
         rintro r w8 ⟨S8,rfl,hm8,hs8,hMo⟩
         have hs8:=hs7.trans hs8
         have hI8:=Lib.hid (hmoreR'.out S8 ⟨hMo.bd,hMo.fm,hMo.fi,hMo.ct,hMo.dk,hMo.sp,hMo.fs⟩ (fun _ h=>absurd h (by decide)))
         clear hm7 hs7 hMo hI
         go_wp2
         go_roundw
         case rel=>exact⟨2,S8,by omega,by go_num,hm8,hs8,hI8⟩
         case measure=>simp[intOf];omega
        ·have hzb:(z2==1)=false:=by simpa using hz1
         go_wp2_with fail
         refine (xN (S.lst a7 c7 l7) b b _ hm7 hI.out.1 hI.out.2.1 (by have:=hI.out.2.2.1;show S.H.sp.length<4;omega)).mono ?_
         rintro r w8 ⟨S8,rfl,hm8,hs8,hMo,_⟩
         have hs8:=hs7.trans hs8
         have hI8:=Lib.hid (hmoreR'.out S8 ⟨hMo.bd,hMo.fm,hMo.fi,hMo.ct,hMo.dk,hMo.sp,hMo.fs⟩ (fun _ h=>absurd h (by decide)))
         clear hm7 hs7 hMo hI
         go_wp2
         go_roundw
         case rel=>exact⟨2,S8,by omega,by go_num,hm8,hs8,hI8⟩
         case measure=>simp[intOf];omega
       ·have hp0:p=0:=by omega
        subst hp0
        go_wp2_with fail
        refine (xN S b b _ hm hI.out.1 hI.out.2.1 (by have:=hI.out.2.2.1;omega)).mono ?_
        rintro r w8 ⟨S8,rfl,hm8,hs8,hMo,hnil⟩
        have hs8:=hs.trans hs8
        have hI8:=Lib.hid (hmoreR'.out S8 hMo (fun e _=>hnil (hI.out.2.2.2.2.2 e).1))
        clear hm hs hMo hI hnil
        go_wp2
        go_roundw
        case rel=>exact⟨0+1,S8,by omega,by go_num,hm8,hs8,Lib.hid ⟨hI8.out.1,hI8.out.2.1,hI8.out.2.2.1,hI8.out.2.2.2.1,hI8.out.2.2.2.2.1,fun e=>⟨(hI8.out.2.2.2.2.2 e).1,(hI8.out.2.2.2.2.2 e).2.1,fun _=>(hI8.out.2.2.2.2.2 e).2.2 (by first | trivial | rfl)⟩⟩⟩
        case measure=>simp[intOf];omega
      ·have hpi:¬(p:Int)<(M:Int):=by omega
       have hpe:M=p:=by omega
       subst hpe
       have hT6:Hid (Bd S.H.ma S.T∧S.T.length=M∧S.H.ma.sp.length=M):=Lib.hid (by
        have h1:=hI.out.2.2.1
        have h2:S.H.ma.sp.length=S.H.sp.length:=List.length_map _
        exact⟨hI.out.1,by rw[hI.out.1.ok.len];omega,by omega⟩)
       have hI0:Hid (S.H.ma=tabs S.H.ma S.T 0∧S.T=S.T∧S.H.sp.length=M∧EI S∧S.H.m.fs.length=f∧S.H.dk.blocks.length=ct∧(l=[]→S.l=[])):=Lib.hid ⟨rfl,rfl,hI.out.2.2.1,hI.out.2.1,hI.out.2.2.2.1,hI.out.2.2.2.2.1,fun e=>(hI.out.2.2.2.2.2 e).1⟩
       have hnew:Hid (l=[]→dh S.H.ma S.T=qB f s ct):=Lib.hid (fun e=>by
        obtain⟨k1,k2⟩:=(hI.out.2.2.2.2.2 e).2.2 (hM1.out e)
        rw[k1,k2];exact Je hf40 hs60 hc80)
       obtain⟨m5,hm5⟩:∃m,S.H.ma=m:=⟨_,rfl⟩
       obtain⟨T5,hT5⟩:∃T,S.T=T:=⟨_,rfl⟩
       have hI1:Hid (S.H.ma=tabs m5 T5 0∧S.T=T5∧S.H.sp.length=M∧EI S∧S.H.m.fs.length=f∧S.H.dk.blocks.length=ct∧(l=[]→S.l=[])):=Lib.hid (by rw[←hm5,←hT5];exact hI0.out)
       rw[hm5,hT5] at hT6 hnew
       have hspl:S.H.sp.length=M:=hI.out.2.2.1
       clear hI hI0 hm5 hT5
       have hc:=hm.blk.cell
       unfold eP at hc
       rw[hspl] at hc
       clear hspl
       go_upto_region 41 with (fail)
       clear hc
       go_loopw [200] (fun k wr => ∃(q:Nat) (S:MW),q≤M∧k = .int .i64 q∧dm wr b b S∧MS w4 b S3 wr S∧Hid (S.H.ma=tabs m5 T5 q∧S.T=T5∧S.H.sp.length=M∧EI S∧S.H.m.fs.length=f∧S.H.dk.blocks.length=ct∧(l=[]→S.l=[]))) (fun k _=>M-(intOf k).toNat)
       case atStart=>exact⟨0,S,Nat.zero_le _,rfl,hm,hs,hI1⟩
       case round=>
        clear hm hs hI1
        obtain⟨q,S,hq,rfl,hm,hs,hI⟩:=hrel
        by_cases hqM:q<M
        ·have hqi:(q:Int)<(M:Int):=by omega
         obtain⟨P,hP⟩:∃P,S.H.sp[q]?=some P:=⟨_,List.getElem?_eq_getElem (by rw[hI.out.2.2.1];exact hqM)⟩
         obtain⟨g,off,cur0,hap,_,_,_,_⟩:=hm.setTb hP
         have hTl:S.T.length=M:=by rw[hI.out.2.1];exact hT6.out.2.1
         obtain⟨gt,ot,ct',curt,hvt,_,hgt,hgts,hgtc,_⟩:=hm.tt.put qV (by decide) q (by omega)
         have hab:S.ab=some ⟨gt,ot,none⟩:=(Value.slice.inj hvt).1
         have h64:(dE T5 q).length=64:=hT6.out.1.ok.l64 (by rw[hT6.out.2.2];exact hqM)
         have hTq:S.T[q]'(by omega)=dE T5 q:=by rw[←dm.lst_len (by omega),hI.out.2.1]
         have hrdT:∀W,Below wr.heap.size wr W→cZ W (some ⟨gt,ot+q*192,none⟩) (oK (dE T5 q)).toList:=fun W hb j u hj=>by
          refine⟨gt,ot+q*192,rfl,?_⟩
          have e1:=hgtc j u (by rw[hTq,Nw h64];exact hj)
          rw[hgt.cell] at e1
          rw[(hgt.ext hb).cell];exact e1
         have hsp':=Lib.hid hI.out.2.2.1
         have hTl':=Lib.hid hTl
         have hap':=Lib.hid hap
         have hab':=Lib.hid hab
         have h64':=Lib.hid h64
         have hsz64:(oK (dE T5 q)).toList.length=192:=by rw[Array.length_toList,mQ,h64]
         have hsz':=Lib.hid hsz64
         have hP':=Lib.hid hP
         have hrdT':=Lib.hid hrdT
         clear hvt hgtc hTq hTl hap hab h64 hsz64 hP hrdT hgt hgts
         go_upto_region 43 with (fail)
         refine aG 16 [_,_,_,_,_,_,_,_,_,_,_,_,_,.r 13 ((Bq b (dO (dE T5 q)))),_,_] (Gk rfl (Gk rfl (Gf b 1 rfl rfl (Gf b 11 rfl rfl (Gl hm.blk (V:=.slice (some ⟨g,off,none⟩) M S.H.cp) (by simp[eP,hap'.out,hsp'.out]) rfl rfl rfl rfl (Gk rfl (Gk rfl (Gk rfl (Gf b 12 rfl rfl (Gl hm.blk (V:=.slice (some ⟨gt,ot,none⟩) M S.cb) (by simp[eP,hab'.out,hTl'.out]) rfl rfl rfl rfl (Gk rfl (Gr (.pointer (some ⟨gt,ot+q*192,none⟩)) (fun ρ y W hb hKn=>(aU rfl (aA rfl hKn) (aA rfl hKn) hqM Tryz.underlying75 arr64_size)) rfl rfl (Gr (.agg (oK (dE T5 q))) (fun ρ y W hb hKn=>(bV rfl (aA rfl hKn) (hrdT'.out W hb) Tryz.underlying90 rfl (arr64_size.trans (congrArg some hsz'.out.symm)))) rfl rfl (ag ?_ (Gr (.pointer (some ⟨g,off+q*10,none⟩)) (fun ρ y W hb hKn=>(aU rfl (aA rfl hKn) (aA rfl hKn) hqM Tryz.underlying39 space_size)) rfl rfl (Gf g (off+q*10+2) rfl rfl (aB))))))))))))))))) (fun _=>rfl) rfl ?_
         ·intro ρ y W hw hn hb hd;have E215:=hw 215 12 rfl;have h12:y 12=_:=hd 12 rfl
          have EF:∀f,ρ (.func f) = .func (.func f) #[] #[]:=fun f=>hn (.func f) trivial
          refine aJ _ _ (ah rfl) (aK rfl (EF _) Tryz.func36 (by kernel_rfl) (by kernel_rfl) (by simp only[List.map_toArray,List.map_cons,List.map_nil,E215,h12,EF];rfl)) ?_
          refine (Dm (dE T5 q) W h64'.out).mono ?_
          rintro e w1 ⟨ca,rfl,hO,hb1⟩
          exact⟨_,rfl,hb1,⟨_,rfl,hO.mono (hm.below hb).bs⟩⟩
         intro y W9 hbW9 hRW9
         have hy13:=hRW9 13 (by decide)
         clear hRW9
         obtain⟨cs,hy13e,hTO⟩:∃cs,y 13 = .agg cs∧lc W9 b cs (dO (dE T5 q)):=hy13
         obtain⟨v,rfl⟩:=IQ hTO.sz
         rw[hy13e]
         have hm9:=hm.below hbW9
         have hs9:=hs.below hbW9
         clear hm hs hbW9 hy13e
         obtain⟨g2,off2,cur,hap2,hgB2,hblk2,hfit2,hset2⟩:=hm9.setTb hP'.out
         rw[hap'.out] at hap2
         obtain⟨rfl,rfl⟩:g=g2∧off=off2:=by
          have:=Option.some.inj hap2
          exact⟨congrArg Addr.block this,congrArg Addr.off this⟩
         have hkb9:iY b S g:=.inr (by simp[dZ,hap'.out,oB,Value.ownBlock])
         clear hap2
         go_wp2_with (refine aC rfl _ _ _ rfl g (off+q*10+2) _ (iP v).toList rfl rfl rfl _ _ hblk2 (by show off+q*10+2+8≤cur.size;exact hfit2) (by kernel_rfl) (Ir hTO.rd) ?_)
         intro w10 hb10 hg10
         have hm10:=hset2 w10 v _ hTO hb10 hg10
         have hs10:MS w4 b S3 w10 { S with H:={ S.H with sp:=S.H.sp.set q { P with ts:=v,tb:=dO (dE T5 q) } } }:=hs9.put hg10 hkb9 (fun x hx => .inl hx)
         have hI10:Hid (({ S with H:={ S.H with sp:=S.H.sp.set q { P with ts:=v,tb:=dO (dE T5 q) } } }:MW).H.ma=tabs m5 T5 (q+1)∧S.T=T5∧(S.H.sp.set q { P with ts:=v,tb:=dO (dE T5 q) }).length=M∧EI { S with H:={ S.H with sp:=S.H.sp.set q { P with ts:=v,tb:=dO (dE T5 q) } } }∧S.H.m.fs.length=f∧S.H.dk.blocks.length=ct∧(l=[]→S.l=[])):=Lib.hid (by
          obtain⟨q1,q2,q3,q4,q5⟩:=hI.out
          refine⟨?_,q2,by rw[List.length_set];exact q3,fun p hp n x hx => ?_,q5⟩
          ·show MH.ma { S.H with sp:=S.H.sp.set q { P with ts:=v,tb:=dO (dE T5 q) } }=_
           rw[Ed hP'.out,q1];rfl
          ·rcases List.mem_or_eq_of_mem_set hp with hp|rfl
           ·exact q4 p hp n x hx
           ·exact q4 P (List.mem_of_getElem? hP'.out) n x hx)
         clear hm9 hs9 hblk2 hfit2 hset2 hb10 hg10 hTO hI hkb9
         go_wp2
         go_roundw
         case rel=>exact⟨q+1,_,by omega,by go_num,hm10,hs10,hI10⟩
         case measure=>simp[intOf];omega
        ·have hqi:¬(q:Int)<(M:Int):=by omega
         have hIm:Hid (S.H.ma=dh m5 T5):=Lib.hid (by
          have e:q=m5.sp.length:=by rw[hT6.out.2.2];omega
          rw[hI.out.1,e];exact Kk)
         have hI7:Hid (Rt S.H.ma∧Co S.H.ma∧EI S∧S.H.m.fs.length=f∧S.H.dk.blocks.length=ct∧(1≤S.H.sp.length∧S.H.sp.length≤2)∧(l=[]→S.H.ma=qB f s ct∧S.l=[])):=Lib.hid (by
          obtain⟨q1,q2,q3,q4,q5,q6,q7⟩:=hI.out
          exact⟨by rw[hIm.out];exact hT6.out.1.rt,by rw[hIm.out];exact hT6.out.1.co,q4,q5,q6,by omega,fun e=>⟨by rw[hIm.out];exact hnew.out e,q7 e⟩⟩)
         clear hI hIm
         by_cases hf0:0<f
         ·have hfi:(0:Int)<(f:Int):=by omega
          go_wp2_with fail
          refine (dH S (f:Int) b b _ hm (by omega)).mono ?_
          rintro r w11 ⟨x,a11,c11,l11,rfl,hm11,hs11,hx,hx0⟩
          have hs11:=hs.trans hs11
          clear hm hs
          go_wp2_with (refine aC rfl _ _ _ rfl b 2 _ [.int .i64 x] rfl rfl rfl _ _ hm11.blk (by show 2+1≤13;omega) (by kernel_rfl) (fun u hu=>by cases List.mem_singleton.1 hu;rfl) ?_)
          intro w12 hb12 hg12
          have hm:=hm11.setH hb12 hg12
          have hs:MS w4 b S3 w12 { (S.lst a11 c11 l11) with H:={ (S.lst a11 c11 l11).H with m:=⟨(S.lst a11 c11 l11).H.m.fs,x⟩ } }:=hs11.put hg12 (.inl rfl) (fun x hx => .inl hx)
          have hI:Hid (Rt ({ (S.lst a11 c11 l11) with H:={ (S.lst a11 c11 l11).H with m:=⟨(S.lst a11 c11 l11).H.m.fs,x⟩ } }:MW).H.ma∧Co ({ (S.lst a11 c11 l11) with H:={ (S.lst a11 c11 l11).H with m:=⟨(S.lst a11 c11 l11).H.m.fs,x⟩ } }:MW).H.ma∧EI ({ (S.lst a11 c11 l11) with H:={ (S.lst a11 c11 l11).H with m:=⟨(S.lst a11 c11 l11).H.m.fs,x⟩ } }:MW)∧({ (S.lst a11 c11 l11) with H:={ (S.lst a11 c11 l11).H with m:=⟨(S.lst a11 c11 l11).H.m.fs,x⟩ } }:MW).H.m.fs.length=f∧({ (S.lst a11 c11 l11) with H:={ (S.lst a11 c11 l11).H with m:=⟨(S.lst a11 c11 l11).H.m.fs,x⟩ } }:MW).H.dk.blocks.length=ct∧(1≤({ (S.lst a11 c11 l11) with H:={ (S.lst a11 c11 l11).H with m:=⟨(S.lst a11 c11 l11).H.m.fs,x⟩ } }:MW).H.sp.length∧({ (S.lst a11 c11 l11) with H:={ (S.lst a11 c11 l11).H with m:=⟨(S.lst a11 c11 l11).H.m.fs,x⟩ } }:MW).H.sp.length≤2)∧(l=[]→({ (S.lst a11 c11 l11) with H:={ (S.lst a11 c11 l11).H with m:=⟨(S.lst a11 c11 l11).H.m.fs,x⟩ } }:MW).H.ma=qB f s ct)):=Lib.hid (by
           obtain⟨q1,q2,q3,q4,q5,q6,q7⟩:=hI7.out
           have hwm:=(eB _).1 q1.pt.fr
           have hh:=Lj q1 q2 (x:=x) ((eB _).2 ⟨hwm.1,hwm.2.1,hx.1,by
            rcases hx.2.2 with h|h
            ·exact .inr (by show x<(S.H.m.fs.length:Int);omega)
            ·exact .inl h⟩)
           refine⟨hh.1,hh.2,q3,q4,q5,q6,fun e => ?_⟩
           obtain⟨k1,k2⟩:=q7 e
           have hx00:x=0:=(hx0 k2).1
           subst hx00
           have k3:S.H.m.hand=0:=by
            have:=congrArg (fun m:Ma=>m.m.hand) k1
            have e2:(qB f s ct).m.hand=0:=by
             unfold qB GG
             rw[if_pos ⟨⟨by omega,by omega⟩,⟨by omega,by omega⟩,by omega,by omega⟩,if_pos (by omega)]
            exact this.trans e2
           rw[←k1]
           show MH.ma { S.H with m:=⟨S.H.m.fs,0⟩ }=MH.ma S.H
           have e3:(⟨S.H.m.fs,0⟩:Mem)=S.H.m:=by rw[←k3]
           rw[e3])
          clear hm11 hs11 hb12 hg12 hI7 hx hx0
          generalize { (S.lst a11 c11 l11) with H:={ (S.lst a11 c11 l11).H with m:=⟨(S.lst a11 c11 l11).H.m.fs,x⟩ } }=S13 at hm hs hI
          ·skip
           have bz:aF w12 w.heap.size (bR noH) 41:=hs.blkN bx4'.out hnb4.out
           have hB9:=Lib.hid (Nat.le_of_eq hbb.out)
           go_wp2_with (first | (refine ay _ _ rfl b 1 rfl rfl _ hm.rdM _ Tryz.underlying41 rfl machine_size ?_) | (refine az rfl _ _ _ rfl w.heap.size (bR S13.H) rfl rfl _ _ bz rfl machine_size (fG _) ?_))
           intro wE bE gE
           have hE:Hid (qK wE w.heap.size S13.H∧Below w.heap.size w wE):=Lib.hid ⟨(hm.ma.keep bz (by decide) gE).mono (by have:=hB9.out;omega),(yX hbe4.out (hto.out _ _ hs) (by have:=hB9.out;omega) (Nat.le_refl _)).grown gE (Nat.le_trans (Nat.le_trans (by omega) hszl4) hs.size) (fun k hk=>by cases hk;exact Nat.le_refl _)⟩
           clear hm hs bz
           go_wp2
           refine bodyPost_ret (v:=.agg (bR S13.H)) (dw Tryz.results10 _ _ w.heap.size _ _ _ rfl bE Tryz.underlying41 rfl machine_size) rfl ?_
           obtain⟨q1,q2,q3,q4,q5,q6,q7⟩:=hI.out
           exact⟨S13.H,rfl,hE.out.1,hE.out.2,q1,q2,q3,by rw[hcl.out.1];exact q4,by rw[hcl.out.2.2];exact q5,q6,fun e=>by rw[hcl.out.1,hcl.out.2.1,hcl.out.2.2];exact q7 e⟩
         ·have hfi:¬(0:Int)<(f:Int):=by omega
          have hI:Hid (Rt S.H.ma∧Co S.H.ma∧EI S∧S.H.m.fs.length=f∧S.H.dk.blocks.length=ct∧(1≤S.H.sp.length∧S.H.sp.length≤2)∧(l=[]→S.H.ma=qB f s ct)):=Lib.hid ⟨hI7.out.1,hI7.out.2.1,hI7.out.2.2.1,hI7.out.2.2.2.1,hI7.out.2.2.2.2.1,hI7.out.2.2.2.2.2.1,fun e=>(hI7.out.2.2.2.2.2.2 e).1⟩
          clear hI7
          ·skip
           have bz:aF wr w.heap.size (bR noH) 41:=hs.blkN bx4'.out hnb4.out
           have hB9:=Lib.hid (Nat.le_of_eq hbb.out)
           go_wp2_with (first | (refine ay _ _ rfl b 1 rfl rfl _ hm.rdM _ Tryz.underlying41 rfl machine_size ?_) | (refine az rfl _ _ _ rfl w.heap.size (bR S.H) rfl rfl _ _ bz rfl machine_size (fG _) ?_))
           intro wE bE gE
           have hE:Hid (qK wE w.heap.size S.H∧Below w.heap.size w wE):=Lib.hid ⟨(hm.ma.keep bz (by decide) gE).mono (by have:=hB9.out;omega),(yX hbe4.out (hto.out _ _ hs) (by have:=hB9.out;omega) (Nat.le_refl _)).grown gE (Nat.le_trans (Nat.le_trans (by omega) hszl4) hs.size) (fun k hk=>by cases hk;exact Nat.le_refl _)⟩
           clear hm hs bz
           go_wp2
           refine bodyPost_ret (v:=.agg (bR S.H)) (dw Tryz.results10 _ _ w.heap.size _ _ _ rfl bE Tryz.underlying41 rfl machine_size) rfl ?_
           obtain⟨q1,q2,q3,q4,q5,q6,q7⟩:=hI.out
           exact⟨S.H,rfl,hE.out.1,hE.out.2,q1,q2,q3,by rw[hcl.out.1];exact q4,by rw[hcl.out.2.2];exact q5,q6,fun e=>by rw[hcl.out.1,hcl.out.2.1,hcl.out.2.2];exact q7 e⟩
theorem new2:qB (yg 2 40) (yg 2 60) (yg 2 80)=⟨GG 2,Ia 2,zC 2,zC 2,⟨[],2⟩,[],[⟨true,[],zTb⟩]⟩:=by
 have e:yg 2 40=2∧yg 2 60=2∧yg 2 80=2:=by decide
 rw[e.1,e.2.1,e.2.2]
 rfl
theorem Kw (w:World):Calls Tryz.prog 9 #[] w fun r w'=>r = .returned (.bool true)∧Below w.heap.size w w':=by
 go_enter Tryz.func9,Tryz.ntmps9
 go_wp2_with fail
 refine (xK 2 2 2 none 0 [] w ⟨Nat.le_refl _,by decide,fun _=>rfl,fun i u h=>(by simp at h)⟩).mono ?_
 rintro r w1 ⟨H,rfl,ho,hb1,hRt,hCo,_,_,_,_,hnew⟩
 have hma:H.ma=⟨GG 2,Ia 2,zC 2,zC 2,⟨[],2⟩,[],[⟨true,[],zTb⟩]⟩:=(hnew rfl).trans new2
 have e6:H.sp.length=1:=by rw[←qw,hma];rfl
 have hlv:(bP H.ma 0).lv=true:=by rw[hma];rfl
 have hnb:Hid (¬ou H 0):=Lib.hid (by
  rintro (e|e|e)
  ·exact absurd e (by decide)
  ·rw[e6] at e;exact absurd e (by decide)
  ·exact absurd (hlv.symm.trans e) (by decide))
 have hR:=Lib.hid hRt
 have hC:=Lib.hid hCo
 have h6:=Lib.hid (And.intro e6 hlv)
 have hr1:=ho.rd
 clear hnew hma e6 hlv hRt hCo ho
 go_wp2_with (refine aH rfl _ _ _ rfl (bR H) rfl rfl rfl machine_size (fG _) ?_)
 intro w2 hb2 bx2
 have hr2:=hr1.below hb2
 have hbr2:=ae hb1 hb2
 clear hr1 hb1 hb2
 go_wp2_with (refine ay _ _ rfl w1.heap.size 0 rfl rfl _ bx2.rd _ Tryz.underlying41 rfl machine_size ?_)
 refine (Bo H 0 _ hr2 hR.out hC.out).mono ?_
 rintro r w3 ⟨hb3,hcase⟩
 rcases hcase with ⟨e,_⟩|⟨_,_,e,_⟩|⟨_,K,q,hq,rfl,ho3,hF⟩
 ·exact absurd e hnb.out
 ·have:=h6.out.1;omega
 have hq1:q=1:=by
  rcases hq with ⟨e,_⟩|⟨e1,e2⟩
  ·rw[e,qw];exact h6.out.1
  ·rw[qw] at e1
   have:=h6.out.1
   obtain rfl:q=0:=by omega
   exact absurd (h6.out.2.symm.trans e2) (by decide)
 subst hq1
 have hF':=Lib.hid hF
 have hr3:=ho3.rd
 have hbr3:=ae hbr2 hb3
 have hl3:K.sp.length=2:=by rw[←qw,hF.spl,qw,h6.out.1];rfl
 have hl3':=Lib.hid hl3
 clear hq hF bx2 hr2 hbr2 hb3 ho3 hl3
 go_wp2_with (refine aH rfl _ _ _ rfl (bR K) rfl rfl rfl machine_size (fG _) ?_)
 intro w4 hb4 bx4
 have hr4:=hr3.below hb4
 have hbr4:=ae hbr3 hb4
 have hc:=bx4.cell
 unfold bR at hc
 rw[hl3'.out] at hc
 clear hr3 hbr3 hb4
 go_wp2_with (refine ay _ _ rfl w3.heap.size 0 rfl rfl _ bx4.rd _ Tryz.underlying41 rfl machine_size ?_)
 refine (IU K 0 _ hr4 hF'.out.rt hF'.out.co).mono ?_
 rintro r w5 ⟨hb5,hcase⟩
 have hlK:(bP K.ma 0).lv=true:=((hF'.out.spo 0 (by decide)).1).trans h6.out.2
 rcases hcase with ⟨e,_⟩|⟨_,G,rfl,ho5,hG⟩
 ·exfalso
  rcases e with e|e|e
  ·exact absurd e (by decide)
  ·rw[hl3'.out] at e;exact absurd e (by decide)
  ·exact absurd (hlK.symm.trans e) (by decide)
 have hlG:G.sp.length=2:=by rw[←qw,hG.spl,qw,hl3'.out]
 have hr5:=ho5.rd
 have hbr5:=ae hbr4 hb5
 obtain⟨P0,hP0⟩:∃P,G.sp[0]?=some P:=⟨_,List.getElem?_eq_getElem (by omega)⟩
 obtain⟨P1,hP1⟩:∃P,G.sp[1]?=some P:=⟨_,List.getElem?_eq_getElem (by omega)⟩
 have v0:P0.lv=false:=by
  have:=hG.sp 0 rfl
  rw[jr hP0] at this
  exact congrArg Sp.lv this
 have v1:P1.lv=true:=by
  have:=(hG.spo 1 (by decide)).1
  rw[jr hP1] at this
  exact this.trans hF'.out.spq.1
 have hPs:=Lib.hid (And.intro hP0 (And.intro hP1 (And.intro v0 v1)))
 have hlG':=Lib.hid hlG
 clear hc bx4 hr4 hbr4 hb5 ho5 hG hP0 hP1 v0 v1 hlG hlK
 go_wp2_with (refine aH rfl _ _ _ rfl (bR G) rfl rfl rfl machine_size (fG _) ?_)
 intro w6 hb6 bx6
 have hr6:=hr5.below hb6
 have hbr6:=ae hbr5 hb6
 have hc:=bx6.cell
 unfold bR at hc
 rw[hlG'.out] at hc
 obtain⟨b0,o0,P0',ha0,hq0,hd0⟩:=kL hr6.sp.rd 0 (by rw[hlG'.out];decide)
 obtain rfl:P0' = P0:=by rw[hPs.out.1] at hq0;exact (Option.some.inj hq0).symm
 obtain⟨b1,o1,P1',ha1,hq1,hd1⟩:=kL hr6.sp.rd 1 (by rw[hlG'.out];decide)
 obtain rfl:P1' = P1:=by rw[hPs.out.2.1] at hq1;exact (Option.some.inj hq1).symm
 rw[ha0] at ha1
 cases ha1
 rw[ha0] at hc
 have c0:w6.cell? ⟨b0,o0,none⟩=some (.bool false):=by
  obtain⟨b',o',e,hcc⟩:=hd0 0 _ rfl
  cases e
  rw[←hPs.out.2.2.1]
  simpa using hcc
 have c1:w6.cell? ⟨b0,o0+10,none⟩=some (.bool true):=by
  obtain⟨b',o',e,hcc⟩:=hd1 0 _ rfl
  cases e
  rw[←hPs.out.2.2.2]
  simpa using hcc
 clear hr5 hbr5 hb6 hq0 hq1 hd0 hd1 ha0 hr6 bx6
 go_wp2
 go_ret
 exact⟨rfl,hbr6⟩
theorem yl {m:Ma} {q:Nat} (h:MJ m q):(bP m q).lv=false:=by
 rcases h with ⟨e,_⟩|⟨_,e⟩
 ·rw[iZ (by omega)];rfl
 ·exact e
def LU (e:Int):UInt8:=UInt8.ofNat (e%256).toNat
def GX (m:Ma) (p n:Nat):List UInt8:=[UInt8.ofNat n,LU (fJ m p n).2.2]++(fJ m p n).1.toList++if (fJ m p n).2.1=true then [121] else []
def fT (m:Ma) (p:Nat):Nat→List UInt8
 | 0=>[]
 | n+1=>fT m p n++GX m p n
theorem xB {m m' : Ma} {p:Nat} (h:∀n:Int,fJ m' p n=fJ m p n):∀n,fT m' p n=fT m p n
 | 0=>rfl
 | n+1=>by
  unfold fT GX
  rw[xB h n,h]
def nI (m:Ma) (f:Int) (n:Nat):List UInt8:=(List.range n).map fun j=>(aY m f (j / 8:Nat)).toList.getD (j%8) 0
theorem KQ (X:Page) (q:Nat) (hq:q<8):(dW X).getD q (.int .u8 0)=kT (X.toList.getD q 0):=by
 rw[Array.getD_eq_getD_getElem?,vv X q hq,List.getD_eq_getElem?_getD,List.getElem?_eq_getElem (by simpa using hq)]
 simp[kT]
theorem Bu (m:Ma) (f:Int) (n:Nat):pq m f n=(nI m f n).map kT:=by
 unfold pq nI
 rw[List.map_map]
 exact List.map_congr_left fun j _=>KQ _ _ (Nat.mod_lt _ (by decide))
theorem Cz (m:Ma) (f:Int) (n:Nat):(nI m f n).length=n:=by unfold nI;simp
theorem ED {m:Ma} (h:Rt m) {f:Nat} (hf:f<m.st.fs.length):0≤(aV m.st f).n∧(aV m.st f).n≤(aV m.st f).b.length*8:=by
 have h1:=rO h.pt.st _ (List.mem_of_getElem? (Bh (s:=m.st) (f:=f) ⟨by omega,by omega⟩))
 have h2:=h1.2.2.1
 unfold dA at h2
 refine⟨h1.1,?_⟩
 have:=h1.1
 split at h2<;>omega
theorem xk (H:MH) (p:Nat):mX H p=(bP H.ma p).lv:=by
 unfold mX
 rw[if_pos (by omega),Int.toNat_natCast]
 cases h:H.sp[p]? with
 | none=>rw[iZ (by rw[qw];exact List.getElem?_eq_none_iff.1 h)];rfl
 | some P=>rw[jr h];rfl
theorem GK {H:MH} {p:Int} (h:ou H p):mX H p=false:=by
 by_cases h0:0≤p
 ·obtain⟨q,rfl⟩:=Int.eq_ofNat_of_zero_le h0
  rw[xk]
  rcases h with e|e|e
  ·omega
  ·rw[iZ (by rw[qw];omega)];rfl
  ·exact e
 ·unfold mX
  rw[if_neg h0]
theorem Ll {H:MH} {p:Int} (h:¬ou H p):∃P:Nat,p=P∧P<H.sp.length∧(bP H.ma P).lv=true:=by
 unfold ou at h
 refine⟨p.toNat,by omega,by omega,?_⟩
 cases e:(bP H.ma p.toNat).lv with
 | true=>rfl
 | false=>exact absurd (.inr (.inr e)) h
end Go.Proofs.YtjkkoeijlhfneaaGreat