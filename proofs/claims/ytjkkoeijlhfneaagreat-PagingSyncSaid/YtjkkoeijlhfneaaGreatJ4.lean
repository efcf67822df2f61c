import Derived.Test.YtjkkoeijlhfneaaGreatJ3
import Derived.BigRegion
import Derived.Lib.AppendZerosOnto
import Derived.Lib.Overlaps
import Derived.Lib.SliceRun
import Derived.Laws.Externs
import Derived.Laws.IdiomCopy
import Derived.Deep.RegionLaw
import Derived.Deep.LoopGhost
import Derived.BigQuiet
import Derived.Deep.OwnRows
import Derived.Deep.DeepCutAuto
set_option linter.unusedSimpArgs false
set_option linter.unusedVariables false
set_option maxHeartbeats 4000000
set_option maxRecDepth 100000
namespace Go.Proofs.YtjkkoeijlhfneaaGreat
open _root_.Go.Proofs.Tryz
open Go.RowKit Go.Maps Pw
variable {B B' B0 b c c' f g i j k n off p sz:Nat} {H H' H0 H1 H2:MH} {P:Program} {Q:Exit → Act → World → Prop} {T T' e t:TypeId} {a a':Option Addr} {cs cs' cur:Array Value} {d:pR} {m:Ma} {o:Oper} {ops:Array Oper} {ps:List PF} {v:Value} {vs xs:List Value} {w w' w0 w1 w2:World} {x:Operand} {ρ:Operand → Value}
theorem jX {α:Type} {enc:α→List Value} (hsz:∀x,(enc x).length=sz) (hp:0<sz) {l:List α} (h:dP w a (l.flatMap enc)) (k:Nat) (hk:k<l.length) :
  ∃b off,a=some ⟨b,off,none⟩∧dP w (some ⟨b,off+k*sz,none⟩) (enc l[k]):=by
 obtain⟨b,off,ha,hc⟩:=h.elem hsz hp k hk;exact⟨b,off,ha,fun j u hj=>⟨b,off+k*sz,rfl,hc j u hj⟩⟩
theorem bJ (h:aB w b cs T) (o n:Nat):dP w (some ⟨b,o,none⟩) ((cs.toList.drop o).take n):=by
 intro i u hi;refine⟨b,o,rfl,?_⟩;rw[h.cell,←tJ];rw[mh] at hi;split at hi
 ·rw[rO] at hi;exact hi
 ·cases hi
def sV (H:MH) (e:Int):Array Value:=#[.slice H.af H.m.fs.length H.cf,.int .i64 H.m.hand,.slice H.asl H.sl.length H.csl,.slice H.wb H.sw.blocks.length H.cwb,.slice H.wq H.sw.queue.length H.cwq,
 .slice H.db H.dk.blocks.length H.cdb,.slice H.dq H.dk.queue.length H.cdq,.slice H.ai H.fi.length H.ci,.int .i64 H.ct,.slice H.ac H.ca.length H.cc,.slice H.ap H.sp.length H.cp,.int .i64 e]
def oB (a:Option Addr):Option Nat:=(Value.slice a 0 0).ownBlock
theorem lK (a:Option Addr) (n c:Nat):(Value.slice a n c).ownBlock=oB a:=by cases a<;>rfl
structure kT (w:World) (B b:Nat) (H:MH) (e:Int):Prop where
 blk:aB w b (sV H e) 96
 ge:B≤b
 ma:tu w B H
 tz:∀p∈H.sp,Fu p.tb
def kb (b:Nat) (H:MH) (x:Nat):Prop:=x=b∨oB H.af=some x∨oB H.ac=some x∨oB H.ap=some x
structure KS (w0:World) (b:Nat) (H0:MH) (w:World) (H:MH):Prop where
 os:w.os=w0.os
 tape:w.tape=w0.tape
 output:w.output=w0.output
 size:w0.heap.size≤w.heap.size
 keep:∀x,x<w0.heap.size→¬kb b H0 x→w.heap[x]?=w0.heap[x]?
 sn:∀x,kb b H x→kb b H0 x∨w0.heap.size≤x
theorem KS.refl (w:World) (b:Nat) (H:MH):KS w b H w H:=⟨rfl,rfl,rfl,ay _,fun _ _ _=>rfl,fun _ h => .inl h⟩
theorem KS.trans (h:KS w0 b H0 w1 H1) (k:KS w1 b H1 w2 H2):KS w0 b H0 w2 H2:=
 ⟨k.os.trans h.os,k.tape.trans h.tape,k.output.trans h.output,bi h.size k.size,fun x hx hn=>(k.keep x (pY hx h.size) (fun hk=>(h.sn x hk).elim hn (fun hh=>absurd hx (CV.2 hh)))).trans (h.keep x hx hn),
  fun x hx=>(k.sn x hx).elim (h.sn x) (fun hh => .inr (bi h.size hh))⟩
theorem KS.below (h:KS w0 b H0 w H) (hb:Below w.heap.size w w'):KS w0 b H0 w' H:=
 ⟨hb.os.trans h.os,hb.tape.trans h.tape,hb.output.trans h.output,bi h.size hb.size,fun x hx hn=>(hb.block x (pY hx h.size)).trans (h.keep x hx hn),h.sn⟩
theorem KS.put {y:Nat} (h:KS w0 b H0 w H) (hg:w.grownBy w' (some y)) (hy:kb b H y) (hn:∀x,kb b H' x→kb b H x∨w0.heap.size≤x):KS w0 b H0 w' H':=
 ⟨hg.os.trans h.os,hg.tape.trans h.tape,hg.output.trans h.output,bi h.size hg.size,fun x hx hnx=>(hg.block x (pY hx h.size) (fun e=>by have e' : x=y:=aJ e;rw[←e'] at hy;exact (h.sn x hy).elim hnx (fun hh=>absurd hx (CV.2 hh)))).trans (h.keep x hx hnx),fun x hx=>(hn x hx).elim (h.sn x) .inr⟩
theorem kT.lt {e:Int} (h:kT w B b H e):b<w.heap.size:=h.blk.lt
theorem kT.bs {e:Int} (h:kT w B b H e):B≤w.heap.size:=bi h.ge (qz h.lt)
theorem kT.below {e:Int} (h:kT w B b H e) (hb:Below w.heap.size w w'):kT w' B b H e:=⟨h.blk.ext hb,h.ge,h.ma.below hb,h.tz⟩
theorem iQ (h:Own w B e sz (.slice a n c) n xs) {x:Nat} (hx:oB a=some x):B≤x∧∃cs,aB w x cs e:=by
 rw[←lK a n c] at hx;exact⟨h.ge x hx,kQ h x hx⟩
theorem kT.kb_ge {e:Int} (h:kT w B b H e) {x:Nat} (hx:kb b H x):B≤x:=by
 rcases hx with hx|hx|hx|hx
 ·rw[hx];exact h.ge
 ·exact (iQ h.ma.fr hx).1
 ·exact (iQ h.ma.ca hx).1
 ·exact (iQ h.ma.sp hx).1
theorem kT.kb_T {e:Int} (h:kT w B b H e) {x:Nat} (hx:kb b H x):∃cs T,aB w x cs T∧(T=96∨T=81∨T=106∨T=55):=by
 rcases hx with hx|hx|hx|hx
 ·rw[hx];exact⟨_,_,h.blk,.inl rfl⟩
 ·obtain⟨cs,hb⟩:=(iQ h.ma.fr hx).2;exact⟨cs,_,hb,.inr (.inl rfl)⟩
 ·obtain⟨cs,hb⟩:=(iQ h.ma.ca hx).2;exact⟨cs,_,hb,.inr (.inr (.inl rfl))⟩
 ·obtain⟨cs,hb⟩:=(iQ h.ma.sp hx).2;exact⟨cs,_,hb,.inr (.inr (.inr rfl))⟩
theorem KS.to {e:Int} (h:kT w0 B b H0 e) (hs:KS w0 b H0 w H) (hB:B0≤B):Below B0 w0 w:=
 ⟨hs.os,hs.tape,hs.output,hs.size,fun x hx=>hs.keep x (by have:=h.bs;omega) (fun hk=>by have:=h.kb_ge hk;omega)⟩
theorem KS.blk {x:Nat} {e:Int} (hs:KS w0 b H0 w H) (h:kT w0 B b H0 e) (hk:aB w0 x cs T) (hT:T≠96∧T≠81∧T≠106∧T≠55):aB w x cs T:=by
 refine (hs.keep x hk.lt fun hx => ?_).trans hk;obtain⟨cs',T',hb,h4⟩:=h.kb_T hx;unfold aB at hk hb;rw[hk] at hb;simp only[iY,rX] at hb;obtain⟨t1,t2,t3,t4⟩:=hT;rcases h4 with e|e|e|e
 ·exact t1 (hb.2.1.trans e)
 ·exact t2 (hb.2.1.trans e)
 ·exact t3 (hb.2.1.trans e)
 ·exact t4 (hb.2.1.trans e)
theorem KS.blkN {x:Nat} (hs:KS w0 b H0 w H) (hk:aB w0 x cs T) (hx:¬kb b H0 x):aB w x cs T:=(hs.keep x hk.lt hx).trans hk
theorem KS.own {e:Int} (hs:KS w0 b H0 w H) (h:kT w0 B b H0 e) (ho:Own w0 B' t sz v n xs) (hT:t≠96∧t≠81∧t≠106∧t≠55):Own w B' t sz v n xs:=
 ⟨ho.1,ho.2.imp id fun⟨g,off,cap,cur,hv,hB,hk,r⟩=>⟨g,off,cap,cur,hv,hB,hs.blk h hk hT,r⟩⟩
theorem tu.keepK {e:Int} (h:kT w B b H e) (hg:w.grownBy w' (some b)):tu w' B H:=h.ma.keep h.blk (by decide) hg
theorem kT.setM {e:Int} (h:kT w B b H e) {m:Mem} (ho:Own w B 81 13 (.slice a m.fs.length c) m.fs.length (m.fs.flatMap qf)) (hb:aB w' b (bB (sV H e) 0 [.slice a m.fs.length c,.int .i64 m.hand]) 96) (hg:w.grownBy w' (some b)) :
  kT w' B b { H with af:=a,cf:=c,m:=m } e:=
 ⟨hb,h.ge,{ tu.keepK h hg with fr:=ak ho h.blk (by decide) hg },h.tz⟩
theorem kT.setL {e:Int} (h:kT w B b H e) {l:List Int} (ho:Own w B 3 1 (.slice a l.length c) l.length (l.map fT)) (hb:aB w' b (bB (sV H e) 2 [.slice a l.length c]) 96) (hg:w.grownBy w' (some b)) :
  kT w' B b { H with asl:=a,csl:=c,sl:=l } e:=
 ⟨hb,h.ge,{ tu.keepK h hg with sl:=ak ho h.blk (by decide) hg },h.tz⟩
theorem kT.setW {e:Int} (h:kT w B b H e) (ho:il w B (.slice a d.blocks.length c) (.slice a' d.queue.length c') d) (hb:aB w' b (bB (sV H e) 3 [.slice a d.blocks.length c,.slice a' d.queue.length c']) 96) (hg:w.grownBy w' (some b)) :
  kT w' B b { H with wb:=a,cwb:=c,wq:=a',cwq:=c',sw:=d } e:=
 ⟨hb,h.ge,{ tu.keepK h hg with sw:=ho.keep h.blk (by decide) (by decide) hg },h.tz⟩
theorem kT.setD {e:Int} (h:kT w B b H e) (ho:il w B (.slice a d.blocks.length c) (.slice a' d.queue.length c') d) (hb:aB w' b (bB (sV H e) 5 [.slice a d.blocks.length c,.slice a' d.queue.length c']) 96) (hg:w.grownBy w' (some b)) :
  kT w' B b { H with db:=a,cdb:=c,dq:=a',cdq:=c',dk:=d } e:=
 ⟨hb,h.ge,{ tu.keepK h hg with dk:=ho.keep h.blk (by decide) (by decide) hg },h.tz⟩
theorem kT.setS {e:Int} (h:kT w B b H e) {k:Int} (ho:nW w B (.slice a ps.length c) ps) (hk : -9223372036854775808≤k∧k≤9223372036854775807) (hb:aB w' b (bB (sV H e) 7 [.slice a ps.length c,.int .i64 k]) 96) (hg:w.grownBy w' (some b)) :
  kT w' B b { H with ai:=a,ci:=c,fi:=ps,ct:=k } e:=
 ⟨hb,h.ge,{ tu.keepK h hg with st:=ho.keep h.blk (by decide) (by decide) hg,c64:=hk },h.tz⟩
theorem kT.setE {e e' : Int} (h:kT w B b H e) (hb:aB w' b (bB (sV H e) 11 [.int .i64 e']) 96) (hg:w.grownBy w' (some b)):kT w' B b H e':=
 ⟨hb,h.ge,tu.keepK h hg,h.tz⟩
def KR (w:World) (B b:Nat) (H:MH) (w' : World) (k:Kp):Prop:=∃H' e',kT w' B b H' e'∧KS w b H w' H'∧Kp.mk H'.ma e' = k
theorem Hm (h1:H'.af=H.af) (h2:H'.ac=H.ac) (h3:H'.ap=H.ap) {x:Nat} (hx:kb b H' x):kb b H x:=by
 unfold kb at hx ⊢; rw[h1,h2,h3] at hx;exact hx
theorem KS.putB (h:KS w0 b H0 w H) (hg:w.grownBy w' (some b)) (h1:H'.af=H.af) (h2:H'.ac=H.ac) (h3:H'.ap=H.ap):KS w0 b H0 w' H':=
 h.put hg (.inl rfl) fun x hx => .inl (Hm h1 h2 h3 hx)
theorem KS.putF (h:KS w0 b H0 w H) (hg:w.grownBy w' (some b)) (ho:Own w B' t sz (.slice H'.af n c) n xs) (hB:w0.heap.size≤B') (h2:H'.ac=H.ac) (h3:H'.ap=H.ap):KS w0 b H0 w' H':=
 h.put hg (.inl rfl) fun x hx=>by
  rcases hx with hx|hx|hx|hx
  ·exact .inl (.inl hx)
  ·exact .inr (bi hB (iQ ho hx).1)
  ·exact .inl (.inr (.inr (.inl (by rw[←h2];exact hx))))
  ·exact .inl (.inr (.inr (.inr (by rw[←h3];exact hx))))
theorem Li {row:Option Nat} (hb:Below w.heap.size w w1) (hg:w1.grownBy w2 row):w.grownBy w2 row:=
 ⟨hg.os.trans hb.os,hg.tape.trans hb.tape,hg.output.trans hb.output,bi hb.size hg.size,fun k hk hn=>(hg.block k (pY hk hb.size) hn).trans (hb.block k hk)⟩
def Sr (k B:Nat) (T:TypeId) (R:mg):vV:=⟨fun y w => ∃g cc,y k = .pointer (some ⟨g,0,none⟩)∧B≤g∧aB w g cc T∧R.r (.agg cc) w,[k],
 fun y w w' hb ⟨g,cc,h1,h2,h3,h4⟩=>⟨g,cc,h1,h2,h3.ext hb,R.st _ _ _ hb h4⟩,fun y y' w h ⟨g,cc,h1,h2⟩=>⟨g,cc,by rw[←h k (bv.2 rfl)];exact h1,h2⟩⟩
theorem bS (h:cs.all (·.oneCell')=true):∀u∈cs.toList,u.oneCell' = true:=by
 rw[←jV,dK] at h;exact h
theorem ER (H:MH):H.ma.sp.length=H.sp.length:=fo _
theorem zW {l:List Cc} (h:dP w a (l.flatMap mD)) (k:Nat) (hk:k<l.length):∃b off,a=some ⟨b,off,none⟩∧dP w (some ⟨b,off+k*3,none⟩) (mD l[k]):=jX pE (by decide) h k hk
theorem qX (e:Int):jg e 0=e:=by unfold jg;split<;>simp_all
theorem SX {e:Int} (h:e≠0) (er:Int):jg e er=e:=by unfold jg;rw[if_neg h]
theorem kT.rdM {e:Int} (h:kT w B b H e):dP w (some ⟨b,0,none⟩) [.slice H.af H.m.fs.length H.cf,.int .i64 H.m.hand]:=bJ h.blk 0 2
theorem kT.rdW {e:Int} (h:kT w B b H e):dP w (some ⟨b,3,none⟩) [.slice H.wb H.sw.blocks.length H.cwb,.slice H.wq H.sw.queue.length H.cwq]:=bJ h.blk 3 2
theorem kT.rdD {e:Int} (h:kT w B b H e):dP w (some ⟨b,5,none⟩) [.slice H.db H.dk.blocks.length H.cdb,.slice H.dq H.dk.queue.length H.cdq]:=bJ h.blk 5 2
theorem kT.rdS {e:Int} (h:kT w B b H e):dP w (some ⟨b,7,none⟩) [.slice H.ai H.fi.length H.ci,.int .i64 H.ct]:=bJ h.blk 7 2
theorem uw (H:MH) (e er:Int) (B b:Nat) (w:World) (h:kT w B b H e) :
  Calls Tryz.prog 89 #[.pointer (some ⟨b,0,none⟩),.int .i64 er] w fun r w'=>r = .returned (.tuple #[])∧kT w' B b H (jg e er)∧w.grownBy w' (some b):=by
 have hc:=h.blk.cell;have hf:=h.blk.free;unfold sV at hc;go_enter func89,ntmps89
 by_cases h0:e=0
 ·have hg:=aG w b 11 [.int .i64 er];have hb:=h.blk.setCells [.int .i64 er] 11;have a:Hid (jg e er=er):=Lib.hid (by unfold jg;rw[if_pos h0]);have h':=Lib.hid h;clear h;go_wp2;simp[bodyPost,results,go_sem,results89];rw[a.out];exact⟨h'.out.setE hb hg,hg⟩
 go_wp2;simp[bodyPost,results,go_sem,results89];rw[SX h0];exact⟨h,IV _ _⟩
theorem TC (H:MH) (e f n:Int) (B b:Nat) (w:World) (h:kT w B b H e) :
  Calls Tryz.prog 80 #[.pointer (some ⟨b,0,none⟩),.int .i64 f,.int .i64 n] w fun r w'=>r = .returned (.tuple #[])∧∃H' e',kT w' B b H' e'∧KS w b H w' H'∧Kp.mk H'.ma e' = iJ ⟨H.ma,e⟩ f n∧H'.sp=H.sp:=by
 go_enter func80,ntmps80
 go_wp2_with (refine ax _ _ rfl b 0 rfl rfl _ h.rdM _ underlying28 rfl mem_size ?_)
 refine (PZ H.m f n _ _ _ h.ma.rd.fr).mono ?_;rintro r w1 ⟨vb,rfl,ho,l⟩;obtain⟨a1,c1,rfl,_⟩:=Ci ho;have p:=Lib.hid h.bs;have h1:=h.below l;have s1:=(KS.refl w b H).below l
 go_wp2_with (refine aI rfl _ _ _ rfl #[.slice a1 (lL H.m f n).fs.length c1,.int .i64 (lL H.m f n).hand] rfl rfl rfl mem_size (jf _ _ _ _) ?_)
 intro w2 c g;have h2:=h1.below c;have s2:=s1.below c;have j:=ho.below c;clear h1 s1 ho c
 go_wp2_with fail
 refine (uw _ e (nz H.m f n) _ _ _ h2).mono ?_;rintro r w3 ⟨rfl,h3,a⟩;have s3:=s2.putB a rfl rfl rfl;have i:=ak j h2.blk (by decide) a;have d:=bq g h2.blk (by decide) a;clear h2 s2 j g a
 by_cases h0:nz H.m f n=0
 ·rw[h0,qX] at h3;have hq:Hid (iJ ⟨H.ma,e⟩ f n=⟨{ H.ma with m:=lL H.m f n },e⟩):=Lib.hid (by unfold iJ;exact if_pos h0);have hx:=d.cell;clear h;rw[h0]
  go_wp2_with (first | (refine ax _ _ rfl _ 0 rfl rfl [.slice a1 (lL H.m f n).fs.length c1,.int .i64 (lL H.m f n).hand] (bJ d 0 2) _ underlying28 rfl mem_size ?_) | (refine gP rfl _ _ _ rfl b 0 _ rfl rfl _ _ h3.blk (by show 0+2≤12;decide) mem_size (jf _ _ _ _) ?_))
  intro w4 o k;have h4:=h3.setM (i.mono p.out) o k;go_wp2;simp[bodyPost,results,go_sem,results80];rw[hq.out];exact⟨_,_,h4,s3.putF k i (ay _) rfl rfl,rfl,rfl⟩
 have hq:Hid (iJ ⟨H.ma,e⟩ f n=⟨H.ma,jg e (nz H.m f n)⟩):=Lib.hid (by unfold iJ;exact if_neg h0);go_wp2;simp[bodyPost,results,go_sem,results80];rw[hq.out];exact⟨_,_,h3,s3,rfl,rfl⟩
theorem AA (H:MH) (e f n:Int) (B b:Nat) (w:World) (h:kT w B b H e) :
  Calls Tryz.prog 80 #[.pointer (some ⟨b,0,none⟩),.int .i64 f,.int .i64 n] w fun r w'=>r = .returned (.tuple #[])∧KR w B b H w' (iJ ⟨H.ma,e⟩ f n):=
 (TC H e f n B b w h).mono fun r w' ⟨h1,H',e',h2,h3,h4,_⟩=>⟨h1,H',e',h2,h3,h4⟩
theorem bF {y:Operand} {k:IntKind} (ho:o.op = .indexAddr t x y) (hx:ρ x = .slice (some ⟨b,off,none⟩) n c) (hy:ρ y = .int k (i:Int)) (hi:i<n)
 (hu:P.underlying t=some (.slice e)) (hs:(P.info? e).map (·.size)=some sz):(execOp ρ o).run P w = .ok (.value (.pointer (some ⟨b,off+i*sz,none⟩))) w:=by
 obtain⟨inf,a,d⟩:∃inf,P.info? e=some inf∧inf.size=sz:=by
  cases h:P.info? e with
  | none=>rw[h] at hs;cases hs
  | some inf=>rw[h] at hs;exact⟨inf,rfl,by simpa using hs⟩
 have f:(Go.sizeOf e).run P w = .ok sz w:=by simp[Go.sizeOf,typeInfo,a,go_sem,d]
 simp[execOp,go_sem,ho,hx,hy,hu,f,hi]
theorem uD {o:Nat} (h:dP w (some ⟨b,o,none⟩) vs) (d n:Nat):dP w (some ⟨b,o+d,none⟩) ((vs.drop d).take n):=by
 intro i u hi;rw[mh] at hi;split at hi
 ·rw[rO] at hi;obtain⟨b',o',e,hc⟩:=h (d+i) u hi;cases e;exact⟨_,_,rfl,by rw[mZ];exact hc⟩
 ·cases hi
theorem uN {o:Nat} (r:List Value) (h:cur[o]?=some v):bB cur o (v::r)=bB cur (o+1) r:=by
 have:cur.setIfInBounds o v=cur:=by
  apply lS;intro i;rw[zF]
  by_cases e:o=i
  ·subst e;rw[if_pos rfl,if_pos (ib.1 h).1,h]
  ·rw[if_neg e]
 show bB (cur.setIfInBounds o v) (o+1) r=_;rw[this]
theorem AL (h:Own w B e sz (.slice (some ⟨g,off,none⟩) n c) n xs) (hb:aB w g cur e):∀j u,xs[j]?=some u→cur[off+j]?=some u:=by
 rcases h.2 with ⟨h1,_⟩|⟨g',off',cap',cur',hv,_,hk,_,_,_,ht⟩
 ·cases h1
 cases hv;have:cur=cur':=by unfold aB at hb hk;rw[hb] at hk;simpa using hk
 subst this;exact ht
theorem kT.setT {e:Int} (h:kT w B b H e) {P:PS} (hP:H.sp[p]?=some P) :
  ∃g off cur,H.ap=some ⟨g,off,none⟩∧B≤g∧aB w g cur 55∧off+p*10+2+8≤cur.size∧dP w (some ⟨g,off+p*10,none⟩) (sW P) ∧
   ∀(w' : World) (v:Vector Value 8) (t:Tb),qG w B (nP v) t→Fu t→aB w' g (bB cur (off+p*10+2) (nP v).toList) 55→w.grownBy w' (some g)→kT w' B b { H with sp:=H.sp.set p { P with ts:=v,tb:=t } } e:=by
 have hp:=(cK.1 hP).1;have o:=(cK.1 hP).2;obtain⟨g,off,cap,cur,hv,hB,a,r,k⟩:=mF sO (by decide) rfl h.ma.sp p hp;simp only[lU] at hv;obtain⟨l,_,s⟩:=hv;have i:=h.ma.sp;rw[l] at i;have d:=AL i a;have f:∀j u,(sW P)[j]?=some u→cur[off+p*10+j]?=some u:=fun j u hj=>by rw[mZ];exact d _ _ (flat_get sW 10 sO H.sp p hp j u (by rw[o];exact hj))
 refine⟨g,off,cur,l,hB,a,by omega,fun j u hj=>⟨g,_,rfl,by rw[a.cell];exact f j u hj⟩,fun w' v t ht m hb hg => ?_⟩;have e1:bB cur (off+p*10) (sW { P with ts:=v,tb:=t })=bB cur (off+p*10+2) (nP v).toList:=by show bB cur (off+p*10) (.bool P.lv :: .slice P.aa P.ar.length P.ac::(nP v).toList)=_;rw[uN _ (by simpa using f 0 _ rfl),uN _ (f 1 _ rfl)]
 rw[←e1] at hb;have c:(H.sp.set p { P with ts:=v,tb:=t }).length=H.sp.length:=bH;have n:b≠g:=fun e=>by have h1:=h.blk;subst e;unfold aB at h1 a;rw[h1] at a;simp only[iY,rX] at a;exact absurd a.2.1 (by decide)
 refine⟨?_,h.ge,⟨ak h.ma.fr a (by decide) hg,ak h.ma.sl a (by decide) hg,h.ma.sw.keep a (by decide) (by decide) hg,h.ma.dk.keep a (by decide) (by decide) hg,h.ma.st.keep a (by decide) (by decide) hg,ak h.ma.ca a (by decide) hg,?_,fun q hq => ?_,h.ma.c64⟩,fun q hq => ?_⟩
 ·have:sV { H with sp:=H.sp.set p { P with ts:=v,tb:=t } } e=sV H e:=by unfold sV;simp only[c]
  rw[this];exact h.blk.grown hg (fun e=>n (aJ e).symm)
 ·simp only[c];exact k w' _ hb
 ·rcases ni hq with hq|rfl
  ·exact⟨ak (h.ma.ps q hq).1 a (by decide) hg,(h.ma.ps q hq).2.keep a (by decide) hg⟩
  ·exact⟨ak (h.ma.ps P (bO hP)).1 a (by decide) hg,ht.keep a (by decide) hg⟩
 rcases ni hq with hq|rfl
 ·exact h.tz q hq
 ·exact m
theorem BB {P:PS} (hP:H.sp[p]?=some P):fF H.ma p=P.sp:=by
 unfold fF MH.ma;simp only;rw[aS,jO,hP];rfl
theorem NS {P:PS} (hP:H.sp[p]?=some P) (v:Vector Value 8) (t:Tb):MH.ma { H with sp:=H.sp.set p { P with ts:=v,tb:=t } }=setTb H.ma p t:=by
 unfold setTb;rw[BB hP];unfold MH.ma;simp only[CU];rfl
theorem Sm {v:Vector Value 8} {t:Tb} (h:Fh w (nP v) t):∀u∈(nP v).toList,u.oneCell' = true:=by
 have:=h.one;rw[←jV,dK] at this;exact this
theorem UC {t:Tb} {n:Int} {e:En}:Fu (setT t n e):=by
 by_cases h:setE t n e=0
 ·exact JG (yB h)
 ·rw[wo h];exact JG zTb_right
def Ql (B:Nat) (t:Tb) (n:Int) (x:En):mg:=⟨fun v w => ∃cs,v = .tuple #[.agg cs,.int .i64 (setE t n x)]∧qG w B cs (setT t n x),fun _ _ _ hb ⟨cs,h1,h2⟩=>⟨cs,h1,h2.below hb⟩⟩
def JU (B:Nat) (t:Tb):mg:=⟨fun v w => ∃cs,v = .agg cs∧qG w B cs t,fun _ _ _ hb ⟨cs,h1,h2⟩=>⟨cs,h1,h2.below hb⟩⟩
theorem vH (H:MH) (e n:Int) (p:Nat) (x:En) (B b:Nat) (w:World) (h:kT w B b H e) (hp:p<H.sp.length) :
  Calls Tryz.prog 79 #[.pointer (some ⟨b,0,none⟩),.int .i64 p,.int .i64 n,.agg (jw x)] w fun r w'=>r = .returned (.tuple #[])∧KR w B b H w' (jT ⟨H.ma,e⟩ p n x):=by
 obtain⟨P,hP⟩:∃P,H.sp[p]?=some P:=⟨_,aH hp⟩;have hE:=Lib.hid (BB hP);have hT:=Lib.hid h.bs;have hL:=bO hP;go_enter func79,ntmps79;go_upto_region 1 with (fail);refine gB (fun W=>Code.wp _ _ _ _ W) fun w1 ha hD hN => ?_;have h1:=h.below ha;have s1:=(KS.refl w b H).below ha;clear h hN;obtain⟨g,off,cur,o,hM,u,t,hj,s⟩:=h1.setT hP;refine nu 18 [_,_,_,_,_,_,_,_,_,_,_,.r 11 ((Ql w1.heap.size P.tb n x)),.r 12 ((Ql w1.heap.size P.tb n x)),.r 13 ((JU w1.heap.size (setT P.tb n x))),.v (.int .i64 (setE P.tb n x)),.r 15 ((ky w1.heap.size 53 8)),.y 16 ((Sr 15 w1.heap.size 53 (JU w1.heap.size (setT P.tb n x)))),.v (.int .i64 (setE P.tb n x))] (fun W=>Below w1.heap.size w1 W) gJ (Below.refl _ _) (Yk gJ rfl (Yk gJ rfl (Yf gJ b 0 rfl rfl (Yf gJ b 10 rfl rfl (Yc gJ (.slice (some ⟨g,off,none⟩) H.sp.length H.cp) (fun W hb=>by simp[(h1.below hb).blk.cell,sV,o]) rfl rfl rfl rfl (Yk gJ rfl (Yr gJ (.pointer (some ⟨g,off+p*10,none⟩)) (fun ρ y W hb a=>(bF rfl (aF rfl a) (aF rfl a) hp underlying39 space_size)) rfl rfl (Yf gJ g (off+p*10+2) rfl rfl (Yr gJ (.agg (nP P.ts)) (fun ρ y W hb a=>(bC rfl (aF rfl a) (uD (hj.below hb) 2 8) underlying53 tab_agg tab_size)) rfl rfl (Yk gJ rfl (Yr gJ (.agg (jw x)) (fun ρ y W hb a=>(dL rfl (aF rfl a) (hD.ext hb) underlying89 rfl entry_size)) rfl rfl (ag ?_ (ag ?_ (ag ?_ (ag ?_ (ag ?_ (ag ?_ (Yk gJ rfl (aC))))))))))))))))))) (fun _=>rfl) rfl ?_
 ·intro ρ y W hw hn hb hd;refine lZ gJ hb ((Ql w1.heap.size P.tb n x)) (fun _ _ h=>h) ?_;have h5:=hw 19 8 rfl;have h8:y 8 = .agg (nP P.ts):=hd 8 rfl;have h4:=hw 20 9 rfl;have h9:y 9 = .int .i64 n:=hd 9 rfl;have h3:=hw 21 10 rfl;have hX:y 10 = .agg (jw x):=hd 10 rfl;have EF:∀f,ρ (.func f) = .func (.func f) #[] #[]:=fun f=>hn (.func f) trivial;refine aR _ _ (ah rfl) (aU rfl (EF _) func118 (by kernel_rfl) (by kernel_rfl) (by simp only[bV,bP,bT,h5,h8,h4,h9,h3,hX,EF];rfl)) ?_;refine (Sw P.tb (nP P.ts) n x W (((h1.below hb).ma.ps P hL).2.rd) (h1.tz P hL)).mono ?_;rintro r W2 ⟨cs,rfl,ho,hS⟩;exact⟨_,rfl,hS,cs,rfl,ho.mono hb.size⟩
 ·intro ρ y W hw hn hb hd;refine lZ gJ hb ((Ql w1.heap.size P.tb n x)) (fun _ _ h=>h) ?_;have hZ:=hw 22 11 rfl;have hW:=hd 11 rfl;refine aj _ (ah rfl) (run_move (.inl rfl) hZ) ?_;exact hW
 ·intro ρ y W hw hn hb hd;refine lZ gJ hb ((JU w1.heap.size (setT P.tb n x))) (fun _ _ h=>h) ?_;have ht:=hw 10 12 rfl;have hs:=hd 12 rfl;obtain⟨cs,hr,ho⟩:=hs;refine aj (.agg cs) (ah rfl) (by simp[execOp,go_sem,bX,ht,hr]) ?_;exact⟨cs,rfl,ho⟩
 ·intro ρ y W hw hn hb hd;refine lZ gJ hb (ul (.int .i64 (setE P.tb n x))) (fun _ _ h=>h) ?_;have ht:=hw 10 12 rfl;have hs:=hd 12 rfl;obtain⟨cs,hr,ho⟩:=hs;refine aj (.int .i64 (setE P.tb n x)) (ah rfl) (by simp[execOp,go_sem,bX,ht,hr]) rfl
 ·intro ρ y W hw hn hb hd;refine lZ gJ hb ((ky w1.heap.size 53 8)) (fun _ _ h=>h) ?_;refine jU (.pointer (some ⟨W.heap.size,0,none⟩)) (ah rfl) (by simp[execOp,go_sem,bX]) ((Below.refl _ _).alloc (ay _) (.cells #[.slice none 0 0,.slice none 0 0,.slice none 0 0,.slice none 0 0,.slice none 0 0,.slice none 0 0,.slice none 0 0,.slice none 0 0] 53)) ?_;exact⟨_,_,rfl,hb.size,aB.new _ _ _,rfl⟩
 ·intro ρ y W hw hn hb hd;have E8:=hw 8 15 rfl;have hU:=hd 15 rfl;have hY:=hw 23 13 rfl;have hV:=hd 13 rfl;obtain⟨cc,e7,hl⟩:=hV;obtain⟨g3,cur3,e9,hJ,m,hF⟩:=hU;have j:=hl.sz;refine qY (ah rfl) _ _ _ rfl g3 0 (.agg cc) cc.toList (E8.trans e9) (hY.trans e7) rfl cur3 _ m (by rw[iI,hF,j];exact ay _) (by rw[iI,j];exact tab_size) (bS hl.rd.one) ?_;intro w1 hh l;rw[iT cur3 cc (by rw[hF,j])] at hh;refine⟨hb.grown l hb.size (fun k hk=>by cases hk;exact hJ),⟨g3,cc,e9,hJ,hh,⟨cc,rfl,hl.keep m (by decide) l⟩⟩,?_⟩;intro k hk hO
  match k,hk,hO with
  | 0,_,_=>exact fun h=>h
  | 1,_,_=>exact fun h=>h
  | 2,_,_=>exact fun h=>h
  | 3,_,_=>exact fun h=>h
  | 4,_,_=>exact fun h=>h
  | 5,_,_=>exact fun h=>h
  | 6,_,_=>exact fun h=>h
  | 7,_,_=>exact fun h=>h
  | 8,_,_=>exact fun h=>h
  | 9,_,_=>exact fun h=>h
  | 10,_,_=>exact fun h=>h
  | 11,_,_=>exact fun⟨c,q1,q2⟩=>⟨c,q1,q2.keep m (by decide) l⟩
  | 12,_,_=>exact fun⟨c,q1,q2⟩=>⟨c,q1,q2.keep m (by decide) l⟩
  | 13,_,_=>exact fun⟨c,q1,q2⟩=>⟨c,q1,q2.keep m (by decide) l⟩
  | 14,_,_=>exact fun h=>h
  | 15,_,_=>exact fun q=>pM q hh (fun _=>j) ⟨_,m⟩ l
  | 16,_,h=>exact absurd rfl h
  | 17,_,_=>exact fun h=>h
  | n+18,h,_=>exact absurd h (by omega)
 intro y W2 i d;replace i:Below w1.heap.size w1 W2:=i;have hB:((Ql w1.heap.size P.tb n x)).r (y 11) W2:=d 11 (by decide);have hA:((Ql w1.heap.size P.tb n x)).r (y 12) W2:=d 12 (by decide);have hz:((JU w1.heap.size (setT P.tb n x))).r (y 13) W2:=d 13 (by decide);have hv:((ky w1.heap.size 53 8)).r (y 15) W2:=d 15 (by decide);have hu:=d 16 (by decide);clear d;simp only[bU,bX,bP,bT];obtain⟨gx,cs2,h7,hH,hK,ca2,hf,hm⟩:=hu;simp only[Cu] at hf;subst hf;obtain⟨v2,rfl⟩:=QK hm.sz;have h2:=h1.below i;have s2:=s1.below i;have hI:=Lib.hid ha.size;clear hB hA hz hv s hj u t o h1 s1 hD hM ha cur
 go_wp2_with fail
 refine (uw _ e (setE P.tb n x) _ _ _ h2).mono ?_;rintro r w3 ⟨rfl,k3,z⟩;have s3:=s2.putB z rfl rfl rfl;have hG:=hm.keep h2.blk (by decide) z;have hC:=bq hK h2.blk (by decide) z;have hM:=Lib.hid hH;clear h2 s2 hm hK z i hH;have hi:Hid (setE (fF H.ma p).tb n x=setE P.tb n x):=Lib.hid (by rw[hE.out];rfl)
 by_cases h0:setE P.tb n x=0
 ·rw[h0,qX] at k3;have hq:Hid (jT ⟨H.ma,e⟩ p n x=⟨setTb H.ma p (setT P.tb n x),e⟩):=Lib.hid (by unfold jT;simp only;rw[if_pos (hi.out.trans h0),hE.out];rfl);obtain⟨g,off,cur,o,h6,u,t,hj,s⟩:=k3.setT hP;have hx:=hC.cell;have kc3:=k3.blk.cell;unfold sV at kc3;rw[o] at kc3;rw[h0];go_upto_region 4 with (fail);refine aM 9 [_,_,_,_,_,_,_,_,_] (Gk rfl (Gk rfl (Gf b 0 rfl rfl (Gf b 10 rfl rfl (Gc (.slice (some ⟨g,off,none⟩) H.sp.length H.cp) (fun W hb=>by simp[(k3.below hb).blk.cell,sV,o]) rfl rfl rfl rfl (Gk rfl (Gr (.agg (nP v2)) (fun ρ y W hb a=>(bC rfl (aF rfl a) ((hC.ext hb).rd) underlying53 tab_agg tab_size)) rfl rfl (Gr (.pointer (some ⟨g,off+p*10,none⟩)) (fun ρ y W hb a=>(bF rfl (aF rfl a) (aF rfl a) hp underlying39 space_size)) rfl rfl (Gf g (off+p*10+2) rfl rfl (aC)))))))))) (fun _=>rfl) rfl ?_;intro y W4 hg _
  go_wp2_with (refine gP rfl _ _ _ rfl g (off+p*10+2) (nP v2) rfl rfl _ _ (u.ext hg) t tab_size (by rw[←jV,dK];exact Sm hG.rd) ?_)
  intro w5 hR hQ;have hc:=Li hg hQ;have k5:=s w5 v2 (setT P.tb n x) (hG.mono (bi hT.out hI.out)) UC hR hc;go_wp2;simp[bodyPost,results,go_sem,results79];rw[hq.out];refine⟨_,_,k5,s3.put hc (.inr (.inr (.inr (by rw[o];rfl)))) fun y hy => .inl (Hm rfl rfl rfl hy),?_⟩;rw[NS hP]
 have hq:Hid (jT ⟨H.ma,e⟩ p n x=⟨H.ma,jg e (setE P.tb n x)⟩):=Lib.hid (by unfold jT;simp only;rw[if_neg (by rw[hi.out];exact h0),hi.out]);go_wp2;simp[bodyPost,results,go_sem,results79];rw[hq.out];exact⟨_,_,k3,s3,rfl⟩
theorem slots_size:(Tryz.prog.info? 30).map (·.size)=some 1:=by kernel_rfl
def OG (B:Nat) (T:TypeId) (sz n:Nat) (xs:List Value) (er:Int):mg:=⟨fun v w => ∃u,v = .tuple #[u,.int .i64 er]∧Own w B T sz u n xs,fun _ _ _ hb ⟨u,h1,h2⟩=>⟨u,h1,h2.below hb⟩⟩
theorem kT.at {w:World} {B b:Nat} {H:MH} {e:Int} (h:kT w B b H e) {p:Nat} {P:PS} (hP:H.sp[p]?=some P):∃g off,H.ap=some ⟨g,off,none⟩∧dP w (some ⟨g,off+p*10,none⟩) (sW P)∧dP w (some ⟨g,off+p*10+2,none⟩) (nP P.ts).toList∧P.good w:=by
 have hp:=(cK.1 hP).1;obtain⟨g,off,P',ha,a,hr⟩:=zy h.ma.rd.sp.rd p hp;rw[hP] at a;cases a;exact⟨g,off,ha,hr,uD hr 2 8,h.ma.rd.ps P (bO hP)⟩
theorem KR.trans {k:Kp} (h:KS w0 b H0 w1 H1) (k2:KR w1 B b H1 w2 k):KR w0 B b H0 w2 k:=by
 obtain⟨H2,e2,h1,h2,h3⟩:=k2;exact⟨H2,e2,h1,h.trans h2,h3⟩
theorem PI (H:MH) (e n:Int) (p:Nat) (B b:Nat) (w:World) (h:kT w B b H e) (hp:p<H.sp.length) :
  Calls Tryz.prog 102 #[.pointer (some ⟨b,0,none⟩),.int .i64 p,.int .i64 n] w fun r w'=>r = .returned (.tuple #[])∧KR w B b H w' (qh ⟨H.ma,e⟩ p n):=by
 obtain⟨P,hP⟩:∃P,H.sp[p]?=some P:=⟨_,aH hp⟩;have hs:=Lib.hid (BB hP);obtain⟨g,off,hE,ht,hh,d⟩:=h.at hP;have hc:=h.blk.cell;unfold sV at hc;rw[hE] at hc;have hL:(p:Int)<(H.sp.length:Int):=by omega
 go_enter func102,ntmps102
 go_wp2_with (refine ax _ _ rfl g (off+p*10+2) rfl rfl _ hh _ underlying53 tab_agg tab_size ?_)
 refine (Kh P.tb (nP P.ts) n _ d.tb).mono ?_;rintro r w1 ⟨rfl,hf⟩;have h1:=h.below hf;have s1:=(KS.refl w b H).below hf;clear hc ht hh d;generalize hx:dH P.tb n=x
 go_wp2_with (refine aI rfl _ _ _ rfl (jw x) rfl rfl rfl entry_size (by simp[jw,Value.oneCell']) ?_)
 intro w2 ha o;have h2:=h1.below ha;have s2:=s1.below ha;clear h1 s1 hf ha h;have i:=o.cell;unfold jw at i;have t:Hid (dH (fF H.ma p).tb n=x):=Lib.hid (by rw[hs.out];exact hx);clear hx
 by_cases hk1:x.k=1
 ·have hq:Hid (qh ⟨H.ma,e⟩ p n=jT (iJ ⟨H.ma,e⟩ x.n (-1)) p n zEn):=Lib.hid (by unfold qh;simp only[t.out];rw[if_pos hk1]);have hJ:=Lib.hid hk1;rw[hk1] at i;clear hk1
  go_wp2_with fail
  refine (AA H e x.n (-1) B b _ h2).mono ?_;rintro r w3 ⟨rfl,H3,e3,h3,s3,q3⟩;have hz:H3.sp.length=H.sp.length:=by
   have e1:H3.ma.sp=H.ma.sp:=by have:=congrArg (fun k=>k.m.sp) q3;simp only at this;rw[this];unfold iJ;split<;>rfl
   have:=congrArg List.length e1;unfold MH.ma at this;simpa using this
  have s3':=s2.trans s3;have hv:=Lib.hid q3;clear q3 s3 i
  go_wp2_with fail
  refine (vH H3 e3 n p zEn B b _ h3 (by rw[hz];exact hp)).mono ?_;rintro r w4 ⟨rfl,hA⟩;go_wp2;simp[bodyPost,results,go_sem,results102];rw[hq.out,←hv.out];exact KR.trans s3' hA
 by_cases hk2:x.k=2
 ·have hq:Hid (qh ⟨H.ma,e⟩ p n=jT (pu ⟨H.ma,e⟩ x.n (-1)) p n zEn):=Lib.hid (by unfold qh;simp only[t.out];rw[if_neg hk1,if_pos hk2]);rw[hk2] at i;clear hk1 hk2;have hj:=h2.blk.cell;unfold sV at hj;go_upto_region 5 with (fail);refine nu 13 [_,_,_,_,_,_,_,.r 7 ((OG w2.heap.size 3 1 (gG H.sl x.n (-1)).length ((gG H.sl x.n (-1)).map fT) (gD H.sl x.n (-1)))),.r 8 ((OG w2.heap.size 3 1 (gG H.sl x.n (-1)).length ((gG H.sl x.n (-1)).map fT) (gD H.sl x.n (-1)))),.r 9 ((ou w2.heap.size 3 1 (gG H.sl x.n (-1)).length ((gG H.sl x.n (-1)).map fT))),.v (.int .i64 (gD H.sl x.n (-1))),.r 11 ((ou w2.heap.size 3 1 (gG H.sl x.n (-1)).length ((gG H.sl x.n (-1)).map fT))),.v (.int .i64 (gD H.sl x.n (-1)))] (fun W=>Below w2.heap.size w2 W) gJ (Below.refl _ _) (Yk gJ rfl (Yk gJ rfl (Yf gJ b 0 rfl rfl (Yf gJ b 2 rfl rfl (Yc gJ (.slice H.asl H.sl.length H.csl) (fun W hb=>by simp[(h2.below hb).blk.cell,sV]) rfl rfl rfl rfl (Yf gJ w1.heap.size 1 rfl rfl (Yc gJ (.int .i64 x.n) (fun W hb=>by simp[(o.ext hb).cell,jw]) rfl rfl rfl rfl (ag ?_ (ag ?_ (ag ?_ (ag ?_ (ag ?_ (Yk gJ rfl (aC)))))))))))))) (fun _=>rfl) rfl ?_
  ·intro ρ y W hw hn hb hd;refine lZ gJ hb ((OG w2.heap.size 3 1 (gG H.sl x.n (-1)).length ((gG H.sl x.n (-1)).map fT) (gD H.sl x.n (-1)))) (fun _ _ h=>h) ?_;have hI:=hw 35 4 rfl;have h4:y 4 = .slice H.asl H.sl.length H.csl:=hd 4 rfl;have hH:=hw 37 6 rfl;have h6:y 6 = .int .i64 x.n:=hd 6 rfl;have EC:∀v,ρ (.const v)=v:=fun v=>hn (.const v) trivial;have EF:∀f,ρ (.func f) = .func (.func f) #[] #[]:=fun f=>hn (.func f) trivial;refine aR _ _ (ah rfl) (aU rfl (EF _) func78 (by kernel_rfl) (by kernel_rfl) (by simp only[bV,bP,bT,hI,h4,hH,h6,EC,EF];rfl)) ?_;have hm:=(h2.below hb).ma.rd.sl;refine (MV H.sl H.asl H.csl x.n (-1) W hm.le hm.nl hm.rd (by have:=hm.le;have:=hm.mx;unfold maxLen at this;omega)).mono ?_;rintro r W3 ⟨u,rfl,ho,hD⟩;exact⟨_,rfl,hD,u,rfl,ho.mono hb.size⟩
  ·intro ρ y W hw hn hb hd;refine lZ gJ hb ((OG w2.heap.size 3 1 (gG H.sl x.n (-1)).length ((gG H.sl x.n (-1)).map fT) (gD H.sl x.n (-1)))) (fun _ _ h=>h) ?_;have hG:=hw 38 7 rfl;have h7:=hd 7 rfl;refine aj _ (ah rfl) (run_move (.inl rfl) hG) ?_;exact h7
  ·intro ρ y W hw hn hb hd;refine lZ gJ hb ((ou w2.heap.size 3 1 (gG H.sl x.n (-1)).length ((gG H.sl x.n (-1)).map fT))) (fun _ _ h=>h) ?_;have hg:=hw 30 8 rfl;have h8:=hd 8 rfl;obtain⟨u,hu,ho⟩:=h8;refine aj u (ah rfl) (by simp[execOp,go_sem,bX,hg,hu]) ?_;exact ho
  ·intro ρ y W hw hn hb hd;refine lZ gJ hb (ul (.int .i64 (gD H.sl x.n (-1)))) (fun _ _ h=>h) ?_;have hg:=hw 30 8 rfl;have h8:=hd 8 rfl;obtain⟨u,hu,ho⟩:=h8;refine aj (.int .i64 (gD H.sl x.n (-1))) (ah rfl) (by simp[execOp,go_sem,bX,hg,hu]) rfl
  ·intro ρ y W hw hn hb hd;refine lZ gJ hb ((ou w2.heap.size 3 1 (gG H.sl x.n (-1)).length ((gG H.sl x.n (-1)).map fT))) (fun _ _ h=>h) ?_;have hF:=hw 39 9 rfl;have h9:=hd 9 rfl;refine aj _ (ah rfl) (run_move (.inr rfl) hF) ?_;exact h9
  intro y W3 a c;replace a:Below w2.heap.size w2 W3:=a;have hr:((OG w2.heap.size 3 1 (gG H.sl x.n (-1)).length ((gG H.sl x.n (-1)).map fT) (gD H.sl x.n (-1)))).r (y 7) W3:=c 7 (by decide);have hl:((OG w2.heap.size 3 1 (gG H.sl x.n (-1)).length ((gG H.sl x.n (-1)).map fT) (gD H.sl x.n (-1)))).r (y 8) W3:=c 8 (by decide);have hk:((ou w2.heap.size 3 1 (gG H.sl x.n (-1)).length ((gG H.sl x.n (-1)).map fT))).r (y 9) W3:=c 9 (by decide);have l:((ou w2.heap.size 3 1 (gG H.sl x.n (-1)).length ((gG H.sl x.n (-1)).map fT))).r (y 11) W3:=c 11 (by decide);clear c;simp only[bU,bX,bP,bT];have j:Own W3 w2.heap.size 3 1 (y 11) (gG H.sl x.n (-1)).length ((gG H.sl x.n (-1)).map fT):=l;obtain⟨a3,c3,e7,_⟩:=Own.rd j;rw[e7] at j;simp only[e7];have k3:=h2.below a;have s3:=s2.below a;have hB:=Lib.hid (bi h2.bs (ay _));have hK:=Lib.hid s2.size;clear hr hl hk l e7 i hj h2 s2 o a
  go_wp2_with fail
  refine (uw _ e (gD H.sl x.n (-1)) _ _ _ k3).mono ?_;rintro r w4 ⟨rfl,k4,z⟩;have s4:=s3.putB z rfl rfl rfl;have hy:=ak j k3.blk (by decide) z;clear k3 s3 j z
  by_cases h0:gD H.sl x.n (-1)=0
  ·rw[h0,qX] at k4;have q:Hid (pu ⟨H.ma,e⟩ x.n (-1)=⟨{ H.ma with sl:=gG H.sl x.n (-1) },e⟩):=Lib.hid (by unfold pu;exact if_pos h0);rw[h0]
   go_wp2_with (refine aA rfl _ _ _ rfl b 2 _ [.slice a3 (gG H.sl x.n (-1)).length c3] rfl rfl rfl _ _ k4.blk (by show 2+1≤12;decide) slots_size (fun u hu=>by cases bv.1 hu;rfl) ?_)
   intro w5 hC hi;have k5:=k4.setL (hy.mono hB.out) hC hi;have s5:KS w b H w5 { H with asl:=a3,csl:=c3,sl:=gG H.sl x.n (-1) }:=s4.putB hi rfl rfl rfl
   go_wp2_with fail
   refine (vH _ e n p zEn B b _ k5 hp).mono ?_;rintro r w6 ⟨rfl,s⟩;go_wp2;simp[bodyPost,results,go_sem,results102];rw[hq.out,q.out];exact KR.trans s5 s
  have q:Hid (pu ⟨H.ma,e⟩ x.n (-1)=⟨H.ma,jg e (gD H.sl x.n (-1))⟩):=Lib.hid (by unfold pu;exact if_neg h0)
  go_wp2_with fail
  refine (vH _ (jg e (gD H.sl x.n (-1))) n p zEn B b _ k4 hp).mono ?_;rintro r w6 ⟨rfl,s⟩;go_wp2;simp[bodyPost,results,go_sem,results102];rw[hq.out,q.out];exact KR.trans s4 s
 have hq:Hid (qh ⟨H.ma,e⟩ p n=⟨H.ma,e⟩):=Lib.hid (by unfold qh;simp only[t.out];rw[if_neg hk1,if_neg hk2]);go_wp2;simp[bodyPost,results,go_sem,results102];rw[hq.out];exact⟨_,_,h2,s2,rfl⟩
theorem lQ {a:Nat} (h:aB w a cs T) (h' : aB w b cs' T') (hT:T≠T'):a≠b:=by
 rintro rfl;unfold aB at h h';rw[h] at h';simp only[iY,rX] at h';exact hT h'.2.1
def Vk (B:Nat) (m:Mem):mg:=⟨fun v w => ∃u,v = .agg #[u,.int .i64 m.hand]∧Own w B 81 13 u m.fs.length (m.fs.flatMap qf),fun _ _ _ hb ⟨u,h1,h2⟩=>⟨u,h1,h2.below hb⟩⟩
theorem mQ (l:List Cc):(l.flatMap mD).length=l.length*3:=Pw.flat_len mD 3 pE l
theorem ND (c:Cc):∀u∈mD c,u.oneCell' = true:=bS (vL c)
theorem Hd (l:List Cc):∀u∈l.flatMap mD,u.oneCell' = true:=by
 intro u hu;obtain⟨c,_,hc⟩:=jP.1 hu;exact ND c u hc
def MX (B:Nat) (S:St):mg:=⟨fun v w => ∃u ps k,v = .agg #[u,.int .i64 k]∧nW w B u ps∧bY ps k=S,fun _ _ _ hb ⟨u,ps,k,h1,h2,h3⟩=>⟨u,ps,k,h1,h2.below hb,h3⟩⟩
theorem BO {l:List Cc} {o:Nat} (h:∀j u,(l.flatMap mD)[j]?=some u→cur[o+j]?=some u):∀j u,((l.take k).flatMap mD)[j]?=some u→cur[o+j]?=some u:=by
 intro j u hj;refine h j u ?_
 conv=>lhs;rw[←qp k l,eY]
 rw[kY (by have:=(cK.1 hj).1;exact this)];exact hj
theorem Ku {l:List Cc} (hk:k≤l.length) {o:Nat} (h:∀j u,(l.flatMap mD)[j]?=some u→cur[o+j]?=some u):∀j u,((l.drop k).flatMap mD)[j]?=some u→cur[o+k*3+j]?=some u:=by
 intro j u hj;rw[mZ];refine h _ u ?_
 conv=>lhs;rw[←qp k l,eY]
 have a:((l.take k).flatMap mD).length=k*3:=by rw[mQ,lC,xI hk]
 rw[kK (by omega),a,Ag];exact hj
theorem KP {a:Act} {K:Act→World→Prop} {E:Prop}
 (hg:o.guard=none) (d s:Operand) (t t' : TypeId) (hop:o.op=Op.call { callee:=.builtin .append,args:=#[d,s],argTypes:=#[t,t'] }) (vd vs v:Value)
 (hd:a.eval d=vd) (hx:a.eval s=vs) (hr:(Builtin.append_ #[t,t'] o.type #[vd,vs]).run P w = .ok v w') (hK:K (a.put o.dst v) w') :
  if Region.wanted o (yielded ops a.tmps)=true then Oper.wp P o a w K Q else E:=by
 have hw:Region.wanted o (yielded ops a.tmps)=true:=by simp[Region.wanted,hg]
 rw[if_pos hw];unfold Oper.wp;simp[execOp,hop,resolve,invoke,builtin,hd,hx,hr,Result.andThen];exact hK
theorem DR (l:List Cc) (k:Nat):(l.eraseIdx k).flatMap mD=(l.take k).flatMap mD++(l.drop (k+1)).flatMap mD:=by rw[List.eraseIdx_eq_take_drop_succ,eY]
theorem Jq (l:List Cc) (k:Nat) (hk:k<l.length) (a:Option Addr) (c B:Nat) (w:World) (hown:Own w B 106 3 (.slice a l.length c) l.length (l.flatMap mD)) (hl:l.length≤1000) :
  Calls Tryz.prog 127 #[.slice a l.length c,.int .i64 k,.int .i64 ((k:Int)+1)] w fun e w'=>e = .returned (.slice a (l.length-1) c)∧Own w' B 106 3 (.slice a (l.length-1) c) (l.length-1) ((l.eraseIdx k).flatMap mD)∧w.grownBy w' (oB a):=by
 rcases hown with ⟨hlen,⟨_,hz⟩|⟨b,off,c',cur,hv,hBb,hb,hnc,hmx,hsz,hcell⟩⟩
 ·omega
 cases hv;have t:=hmx;unfold maxLen at t;have v:((l.drop (k+1)).flatMap mD).length=(l.length-(k+1))*3:=by rw[mQ,List.length_drop]
 have x:=Ku (k:=k+1) (by omega) hcell;have q:∀ad cc ty,(∀j u,((l.drop (k+1)).flatMap mD)[j]?=some u→w.cell? (Addr.add ad j)=some u)→(Builtin.append_ #[38,38] ty #[.slice (some ⟨b,off,none⟩) k c,.slice (some ad) (l.length-(k+1)) cc]).run Tryz.prog w.drew = .ok (.slice (some ⟨b,off,none⟩) (k+(l.length-(k+1))) c) (w.drew.setCells b (off+k*3) ((l.drop (k+1)).flatMap mD)):=by intro ad cc ty hn;obtain⟨i0,hd,hh,i,hg⟩:=info_parts cached_info;have:=run_append_room_cells (P:=Tryz.prog) w.drew 38 ty 106 i0 underlying38 hd b off k c ad (l.length-(k+1)) cc ((l.drop (k+1)).flatMap mD) (by rw[i,v]) hn (fun u hu=>Hd _ u hu) (by omega) (fun j hj=>by rw[i,hb.drew.cell];simp[show off+k*3+j<cur.size by omega]) (fun j hj=>hb.drew.free _);rw[i] at this;exact this
 have r:k+1=l.length→((l.drop (k+1)).flatMap mD)=[]:=fun h=>by rw[qa (by omega)];rfl
 obtain⟨N,hN⟩:∃N,N=(l.drop (k+1)).flatMap mD:=⟨_,rfl⟩;rw[←hN] at v x q r;have ha:=Lib.hid hN;clear hN;have hi:IntKind.i64.wrap ((k:Int)+1)=(k:Int)+1:=bM _ (by omega);have hs:(k:Int)+1≤(l.length:Int):=by omega
 have hr:(k:Int)≤(k:Int)+1:=by omega
 have hf:¬((k:Int)=(k:Int)+1):=by omega
 have ht:(0:Int)≤(k:Int)+1:=by omega
 have hm:((k:Int)+1).toNat=k+1:=by omega
 have hp:(l.length:Int)≤(c:Int):=by omega
 have hq:(k:Int)≤(c:Int):=by omega
 go_enter func127,ntmps127
 go_wp2_with fail
 by_cases hck:c=k+1
 ·subst hck;have z:=Lib.hid (r (by omega));clear r
  go_region_law (refine KP rfl _ _ 38 38 rfl (.slice (some ⟨b,off,none⟩) k (k+1)) (.slice (some ⟨b,off,none⟩) (l.length-(k+1)) 0) _ (by simp[Act.eval,Act.put]) (by simp[Act.eval,Act.put];omega) (q _ _ _ (fun j u hj=>by rw[z.out] at hj;simp at hj)) ?_)
  have g:=(hb.drew).setCells N (off+k*3);have f:w.grownBy (w.drew.setCells b (off+k*3) N) (some b):=vF (a:=w) (b:=w.drew) (row:=some b) ⟨rfl,rfl,rfl,ay _,fun _ _ _=>rfl⟩ (aG w.drew _ _ _);have o:k+(l.length-(k+1))=k:=by omega
  try rw[o]
  have s : Hid (k=l.length-1):=Lib.hid (by omega);have e4:(l.length:Int)≤(k:Int)+1:=by omega
  generalize w.drew.setCells b (off+k*3) N=W1 at *
  have y:=fun ty=>tQ (P:=Tryz.prog) W1 38 106 ty _ 3 24 underlying38 cached_info (by decide) (by decide) b (off+k*3) 1 (1) (by omega) _ _ g (by rw[size_putAt];show off+k*3+1*3≤cur.size;omega);have e1:l.length-k=1:=by omega
  have e2:((k:Nat):Int)≤(l.length:Int):=by omega
  have e3:¬((k+1)=k):=by omega
  go_wp2;go_ret;have p:=g.setCells (Builtin.zeroCells (Value.agg #[.int .i64 0,.int .i64 0,.int .i64 0]).cells 1).toList (off+k*3);have d:=vF f (aG W1 b (off+k*3) (Builtin.zeroCells (Value.agg #[.int .i64 0,.int .i64 0,.int .i64 0]).cells 1).toList);refine⟨congrArg (fun n=>Ending.returned (Value.slice (some ⟨b,off,none⟩) n (k+1))) (show k=l.length-1 by omega),⟨by rw[mQ,yV hk],.inr ⟨b,off,(k+1),_,rfl,hBb,p,by omega,hmx,by rw[size_putAt,size_putAt];exact hsz,?_⟩⟩,d⟩;intro j u hj;have hc:j<(l.length-1)*3:=by have:=(cK.1 hj).1;rw[mQ,yV hk] at this;exact this
  rw[putAt_out _ _ _ _ (.inl (by omega))];rw[DR,←ha.out] at hj;have m:((l.take k).flatMap mD).length=k*3:=by rw[mQ,lC,xI (by omega)]
  by_cases c1:j<k*3
  ·rw[kY (by omega)] at hj;rw[putAt_out _ _ _ _ (.inl (by omega))];exact BO hcell j u hj
  rw[kK (by omega),m] at hj;have:=putAt_in _ cur (off+k*3) (j-k*3) u (by omega) hj;rwa [show off+k*3+(j-k*3)=off+j by omega] at this
 go_region_law (refine KP rfl _ _ 38 38 rfl (.slice (some ⟨b,off,none⟩) k c) (.slice (some ⟨b,off+(k+1)*3,none⟩) (l.length-(k+1)) (c-(k+1))) _ (by simp[Act.eval,Act.put]) (by simp[Act.eval,Act.put]) (q _ _ _ (fun j u hj=>by rw[sj,hb.cell];exact x j u hj)) ?_)
 have g:=(hb.drew).setCells N (off+k*3);have f:w.grownBy (w.drew.setCells b (off+k*3) N) (some b):=vF (a:=w) (b:=w.drew) (row:=some b) ⟨rfl,rfl,rfl,ay _,fun _ _ _=>rfl⟩ (aG w.drew _ _ _);have o:k+(l.length-(k+1))=(l.length-1):=by omega
 try rw[o]
 have s : Hid ((l.length-1)=l.length-1):=Lib.hid (by omega);have e4:(l.length:Int)≤(c:Int):=by omega
 generalize w.drew.setCells b (off+k*3) N=W1 at *
 have y:=fun ty=>tQ (P:=Tryz.prog) W1 38 106 ty _ 3 24 underlying38 cached_info (by decide) (by decide) b (off+(l.length-1)*3) 1 (c-(l.length-1)) (by omega) _ _ g (by rw[size_putAt];show off+(l.length-1)*3+1*3≤cur.size;omega);have e1:l.length-(l.length-1)=1:=by omega
 have e2:(((l.length-1):Nat):Int)≤(l.length:Int):=by omega
 have e3:¬(c=(l.length-1)):=by omega
 go_wp2;go_ret;have p:=g.setCells (Builtin.zeroCells (Value.agg #[.int .i64 0,.int .i64 0,.int .i64 0]).cells 1).toList (off+(l.length-1)*3);have d:=vF f (aG W1 b (off+(l.length-1)*3) (Builtin.zeroCells (Value.agg #[.int .i64 0,.int .i64 0,.int .i64 0]).cells 1).toList);refine⟨congrArg (fun n=>Ending.returned (Value.slice (some ⟨b,off,none⟩) n c)) (show (l.length-1)=l.length-1 by omega),⟨by rw[mQ,yV hk],.inr ⟨b,off,c,_,rfl,hBb,p,by omega,hmx,by rw[size_putAt,size_putAt];exact hsz,?_⟩⟩,d⟩;intro j u hj;have hc:j<(l.length-1)*3:=by have:=(cK.1 hj).1;rw[mQ,yV hk] at this;exact this
 rw[putAt_out _ _ _ _ (.inl (by omega))];rw[DR,←ha.out] at hj;have m:((l.take k).flatMap mD).length=k*3:=by rw[mQ,lC,xI (by omega)]
 by_cases c1:j<k*3
 ·rw[kY (by omega)] at hj;rw[putAt_out _ _ _ _ (.inl (by omega))];exact BO hcell j u hj
 rw[kK (by omega),m] at hj;have:=putAt_in _ cur (off+k*3) (j-k*3) u (by omega) hj;rwa [show off+k*3+(j-k*3)=off+j by omega] at this
theorem Uf (c:Cc) (g g2:Nat) (f i:Int) (w:World) (hg:aB w g #[.int .i64 f] 3) (hg2:aB w g2 #[.int .i64 i] 3) :
  Calls Tryz.prog 142 #[.agg (Ao c),.pointer (some ⟨g,0,none⟩),.pointer (some ⟨g2,0,none⟩)] w fun r w'=>r = .returned (.bool (Aw f i c))∧Below w.heap.size w w':=by
 go_enter func142,ntmps142;go_upto_region 1 with (fail);refine gB (fun W=>Code.wp _ _ _ _ W) fun W0 a b d => ?_;clear d;have j:=(hg.ext a).cell 0;have h:=(hg2.ext a).cell 0;have e:=b.cell;unfold Ao at e
 by_cases h1:f<c.f
 ·go_wp2;go_ret;exact⟨bK (by unfold Aw;simp[h1]),a⟩
 by_cases h2:c.f=f
 ·have e1:(c.f==f)=true:=by simpa using h2
  by_cases h3:i≤c.i
  ·go_wp2;go_ret;exact⟨bK (by unfold Aw;simp[h2,h3]),a⟩
  go_wp2;go_ret;exact⟨bK (by unfold Aw;simp[h1,h2,h3]),a⟩
 have e1:(c.f==f)=false:=by simpa using h2
 go_wp2;go_ret;exact⟨bK (by unfold Aw;simp[h1,h2]),a⟩
theorem OE (l:List Cc) (a:Option Addr) (c:Nat) (w:World) (hrd:dP w a (l.flatMap mD)) (hl:l.length≤9223372036854775807) (g g2:Nat) (ff ii:Int) (hg:aB w g #[.int .i64 ff] 3) (hg2:aB w g2 #[.int .i64 ii] 3) :
  Calls Tryz.prog 113 #[.slice a l.length c,.func (.func 142) #[] #[.pointer (some ⟨g,0,none⟩),.pointer (some ⟨g2,0,none⟩)]] w fun e w'=>e = .returned (.int .i64 (idx (Aw ff ii) l))∧Below w.heap.size w w':=by
 go_enter func113,ntmps113;go_wp2
 go_loopw [8] (fun i wr => ∃k:Nat,k≤l.length∧i = .int .i64 k∧Below w.heap.size w wr∧∀i (h:i<l.length),i<k→(Aw ff ii) l[i]=false) (fun i _=>l.length-(intOf i).toNat)
 case atStart=>exact⟨0,aV _,rfl,Below.refl _ _,fun i _ h=>absurd h (dV _)⟩
 case round=>
  obtain⟨k,hk,rfl,f,n⟩:=hrel;have hp:=Lib.hid n;clear n
  by_cases hlt:k<l.length
  ·obtain⟨b,off,rfl,p⟩:=zW (hrd.below f) k hlt
   go_wp2_with (refine ax _ _ rfl b (off+k*3) rfl rfl _ p _ underlying106 rfl cached_size ?_)
   refine (Uf l[k] g g2 ff ii _ (hg.ext f) (hg2.ext f)).mono ?_;rintro e w2 ⟨rfl,o⟩;have j:=ae f o;clear o;cases hpk:(Aw ff ii) l[k]
   ·have m:=Lib.hid hpk;clear hpk;go_wp2;go_roundw
    case rel=>exact⟨k+1,by omega,by go_num,j,lN hp.out hlt m.out⟩
    case measure=>simp[intOf];omega
   have d:=Lib.hid (tN (Aw ff ii) l k hlt hp.out hpk);clear hpk;go_wp2;go_ret;exact⟨aT d.out.symm,j⟩
  have d:=Lib.hid (lc (Aw ff ii) l fun i h=>hp.out i h (by omega));go_wp2;go_ret;exact⟨aT d.out.symm,f⟩
theorem UT {l:List Cc} {f i:Int}:(idx (Aw f i) l<0∧yR l f i=l.length∧QF l f i=false)∨(∃k,∃hk:k<l.length,idx (Aw f i) l=k∧yR l f i=k∧QF l f i=(decide (l[k].f=f)&&decide (l[k].i=i))):=by
 unfold idx QF yR;cases h:l.findIdx? (Aw f i) with
 | none=>exact .inl ⟨by decide,rfl,by simp⟩
 | some k=>
  obtain⟨hk,_,_⟩:=vN.1 h;exact .inr ⟨k,hk,rfl,rfl,by simp[aH hk]⟩
theorem TM (H:MH) (e f i:Int) (B b:Nat) (w:World) (h:kT w B b H e) :
  Calls Tryz.prog 126 #[.pointer (some ⟨b,0,none⟩),.int .i64 f,.int .i64 i] w fun r w'=>r = .returned (.tuple #[.int .i64 (yR H.ca f i:Int),.bool (QF H.ca f i)])∧Below w.heap.size w w':=by
 go_enter func126,ntmps126;go_upto_region 1 with (fail);refine rE (fun W=>Code.wp _ _ _ _ W) fun W0 p n m u => ?_;clear u;have k0:=h.below p;have hc:=k0.blk.cell;unfold sV at hc;have hm:=k0.ma.rd.ca;have v:=hm.mx;have ha:=hm.le;unfold maxLen at v;clear h
 go_wp2_with fail
 refine (OE H.ca H.ac H.cc _ hm.rd (by omega) _ _ f i n m).mono ?_;rintro r w1 ⟨rfl,d⟩;have a:=ae p d;have k1:=k0.below d;have y:=(n.ext d).cell 0;have x:=(m.ext d).cell 0;have s:=k1.blk.cell;unfold sV at s;have j:=hm.rd.below d;clear hc n m p d k0 hm;rcases UT (l:=H.ca) (f:=f) (i:=i) with ⟨h1,h2,h3⟩|⟨k,hk,h1,h2,h3⟩
 ·have hq:=Lib.hid (And.intro h2 h3);clear h2 h3;generalize idx (Aw f i) H.ca=z at *
  go_wp2;go_ret2;rw[hq.out.1,hq.out.2];exact⟨rfl,a⟩
 have hq:=Lib.hid (And.intro h2 h3);rw[h1];clear h1 h2 h3;obtain⟨g,off,c,t,o,c0,c1,c2⟩:=Vh j k hk;rw[t] at s;have q:H.ca[k]=c:=by rw[aH hk] at o;exact aJ o
 rw[q] at hq;have hb:(k:Int)<(H.ca.length:Int):=by omega
 clear o j t q
 go_wp2_with fail
 by_cases e1:c.f=f
 ·have b1:(c.f==f)=true:=by simpa using e1
  by_cases e2:c.i=i
  ·have b2:(c.i==i)=true:=by simpa using e2
   go_quiet (fail);go_wp2;go_ret2;rw[hq.out.1,hq.out.2];refine⟨by simp[e1,e2],below_drewN a _⟩
  have b2:(c.i==i)=false:=by simpa using e2
  go_quiet (fail);go_wp2;go_ret2;rw[hq.out.1,hq.out.2];refine⟨by simp[e1,e2],below_drewN a _⟩
 have b1:(c.f==f)=false:=by simpa using e1
 go_quiet (fail);go_wp2;go_ret2;rw[hq.out.1,hq.out.2];refine⟨by simp[e1],below_drewN a _⟩
def uC (u:Nat × Int):Array Value:=#[.int .i64 u.1,.int .i64 u.2]
def uL (u:Nat × Int):List Value:=(uC u).toList
theorem Vi (u:Nat × Int):(uL u).length=2:=rfl
theorem us_info:(Tryz.prog.info? 193).map (fun i=>(i.zero,i.size,i.bytes))=some (some (.agg #[.int .i64 0,.int .i64 0]),2,16):=by kernel_rfl
theorem us_size:(Tryz.prog.info? 193).map (·.size)=some 2:=by kernel_rfl
theorem VU (u:Nat × Int):∀x∈uL u,x.oneCell' = true:=by
 intro x hx;simp only[uL,uC,bZ,fP,or_false] at hx;rcases hx with rfl|rfl<;>rfl
def rV (m:Ma) (f:Int) (P:Nat):List (Nat × Int):=(List.range P).flatMap fun p=>(nY (fF m p).tb 1 f).map fun n=>(p,n)
theorem FJ (m:Ma) (f:Int) (P:Nat):rV m f (P+1)=rV m f P++(nY (fF m P).tb 1 f).map fun n=>(P,n):=by
 unfold rV;rw[xn,eY];simp
theorem NP (t:Tb) (kd i:Int):(nY t kd i).length≤64:=by
 unfold nY aP;exact bi (zR _ _) (qO t 64)
theorem Cm (m:Ma) (f:Int):∀P,(rV m f P).length≤P*64
 | 0=>by simp[rV]
 | P+1=>by have h1:=Cm m f P;have h2:=NP (fF m P).tb 1 f;rw[FJ,jH,fo];omega
theorem MF (H:MH) (e f:Int) (B b:Nat) (w:World) (h:kT w B b H e) (hz:H.sp.length≤1000) :
  Calls Tryz.prog 125 #[.pointer (some ⟨b,0,none⟩),.int .i64 f] w fun r w' => ∃v,r = .returned v∧Own w' w.heap.size 193 2 v (bn H.ma f).length ((bn H.ma f).flatMap uL)∧Below w.heap.size w w':=by
 go_enter func125,ntmps125;have hc:=h.blk.cell;unfold sV at hc;go_upto_region 3 with (fail);clear hc
 go_loopw [5,15] (fun s5 s15 wr => ∃P:Nat,P≤H.sp.length∧s15 = .int .i64 P∧Own wr w.heap.size 193 2 s5 (rV H.ma f P).length ((rV H.ma f P).flatMap uL)∧Below w.heap.size w wr) (fun _ s15 _=>H.sp.length-(intOf s15).toNat)
 case atStart=>exact⟨0,aV _,rfl,Own.nil _ _ _ _,Below.refl _ _⟩
 case round=>
  obtain⟨P,hP,rfl,a,c⟩:=hrel
  by_cases hlt:P<H.sp.length
  ·obtain⟨S,hS⟩:∃S,H.sp[P]?=some S:=⟨_,aH hlt⟩;have hb:=Lib.hid (BB hS);have kr:=h.below c;obtain⟨g,off,hp,hi,hd,m⟩:=kr.at hS;have hc:=kr.blk.cell;unfold sV at hc;rw[hp] at hc;have hq:(P:Int)<(H.sp.length:Int):=by omega
   go_wp2_with (refine ax _ _ rfl g (off+P*10+2) rfl rfl _ hd _ underlying53 tab_agg tab_size ?_)
   refine (PQ S.tb (nP S.ts) 1 f _ m.tb).mono ?_;rintro r w1 ⟨v1,rfl,x,ha⟩;obtain⟨a1,c1,rfl,_⟩:=x.rd;have q:=x.mono (aV _);have s:=ae c ha;have d:=a.below ha;have hs:(nY S.tb 1 f).length≤64:=NP _ _ _;have hm:Hid (nY (fF H.ma P).tb 1 f=nY S.tb 1 f):=Lib.hid (by rw[hb.out];rfl);have hr:=Cm H.ma f P;generalize nY S.tb 1 f=L at *
   clear hc hi hd m kr a ha x;go_upto_region 6 with (fail)
   go_loopw [5,30] (fun s5 s30 wr => ∃j:Nat,j≤L.length∧s30 = .int .i64 j∧Own wr w.heap.size 193 2 s5 (rV H.ma f P++(L.take j).map fun n=>(P,n)).length ((rV H.ma f P++(L.take j).map fun n=>(P,n)).flatMap uL)∧Below w.heap.size w wr∧Own wr 0 3 1 (.slice a1 L.length c1) L.length (L.map fT)) (fun _ s30 _=>L.length-(intOf s30).toNat)
   case atStart=>exact⟨0,aV _,rfl,by simpa using d,s,q⟩
   case round=>
    clear d s q;obtain⟨j,hj,rfl,a,c,p⟩:=hrel
    by_cases hjl:j<L.length
    ·obtain⟨_,_,e9,_,_,_,hf⟩:=p.rd;cases e9;obtain⟨bl,ol,rfl,hn⟩:=jv hf j hjl;have hl:(j:Int)<(L.length:Int):=by omega
     have hh:(rV H.ma f P++(L.take j).map fun n=>(P,n)).length=(rV H.ma f P).length+j:=by rw[jH,fo,lC];omega
     have t:Hid (rV H.ma f P++(L.take (j+1)).map (fun n=>(P,n))=(rV H.ma f P++(L.take j).map fun n=>(P,n))++[(P,L[j])]):=Lib.hid (by rw[mV,aH hjl,jb,jG];rfl);generalize rV H.ma f P++(L.take j).map (fun n=>(P,n))=us at *
     go_wp2_with (at_builtin;(refine fq rfl _ _ 191 rfl w.heap.size 193 (.agg #[.int .i64 0,.int .i64 0]) 2 16 underlying191 us_info rfl (by decide) _ _ _ rfl (a.alloc _) (some ⟨_,0,none⟩) 1 1 (uL (P,L[j])) rfl (fun h=>(by cases h)) (ay _) rfl (dP.new _ (uC (P,L[j])) _) (VU _) (by unfold maxLen;omega) (by omega) (cZ c.size _) ?_))
     intro v2 w2 u l;have z:=(c.alloc c.size (.cells (uC (P,L[j])) 193)).grown l (cZ c.size _) (fun k hk=>a.ge k hk);have hg:=zg (p.alloc (.cells (uC (P,L[j])) 193)) (a.alloc (.cells (uC (P,L[j])) 193)) (by decide) l;have y:(us++[(P,L[j])]).length=us.length+1:=by simp
     clear hn hf a c p l;go_wp2;go_roundw
     case rel=>exact⟨j+1,by omega,by go_num,by rw[t.out,y,eY,hh];simpa using u,z,hg⟩
     case measure=>simp[intOf];omega
    have hl:¬(j:Int)<(L.length:Int):=by omega
    have o:Hid (rV H.ma f P++(L.take j).map (fun n=>(P,n))=rV H.ma f (P+1)):=Lib.hid (by rw[iN (by omega),FJ,hm.out]);clear p;go_wp2;go_roundw
    case rel=>
     have i:=a;rw[o.out] at i;exact⟨u5,.int .i64 (P:Int),u8,.int .i64 ((P:Int)+1),⟨P+1,by omega,by go_num,i⟩,rfl,rfl,rfl,rfl⟩
    case measure=>simp[intOf];omega
  have o:Hid (rV H.ma f P=bn H.ma f):=Lib.hid (by
   have:P=H.sp.length:=by omega
   unfold rV bn MH.ma;simp[this])
  have hq:¬(P:Int)<(H.sp.length:Int):=by omega
  go_wp2;go_ret;rw[←o.out];exact⟨_,rfl,a,c⟩
theorem kT.frame {e:Int} (h:kT w B b H e) (hf:f<H.m.fs.length) :
  ∃g off cur,H.af=some ⟨g,off,none⟩∧B≤g∧aB w g cur 81∧off+f*13+13≤cur.size∧dP w (some ⟨g,off+f*13,none⟩) (qf (aN H.ma f))∧(∀j u,(qf (aN H.ma f))[j]?=some u→cur[off+f*13+j]?=some u)∧b≠g ∧
   ∀(w' : World) (x:Fr),aB w' g (bB cur (off+f*13) (qf x)) 81→w.grownBy w' (some g)→kT w' B b { H with m:=⟨H.m.fs.set f x,H.m.hand⟩ } e:=by
 have r:H.m.fs[f]=aN H.ma f:=by have:H.m.fs[f]?=some (aN H.ma f):=yG (m:=H.ma) (f:=f) hf;rw[aH hf] at this;exact aJ this
 obtain⟨g,off,cap,cur,hv,hB,a,l,i⟩:=mF fJ (by decide) rfl h.ma.fr f hf;simp only[lU] at hv;obtain⟨p,_,s⟩:=hv;have k:=h.ma.fr;rw[p] at k;have d:=AL k a;have o:∀j u,(qf (aN H.ma f))[j]?=some u→cur[off+f*13+j]?=some u:=fun j u hj=>by rw[mZ];exact d _ _ (flat_get qf 13 fJ H.m.fs f hf j u (by rw[r];exact hj))
 have n:b≠g:=fun e=>by have h1:=h.blk;subst e;unfold aB at h1 a;rw[h1] at a;simp only[iY,rX] at a;exact absurd a.2.1 (by decide)
 refine⟨g,off,cur,p,hB,a,l,fun j u hj=>⟨g,_,rfl,by rw[a.cell];exact o j u hj⟩,o,n,fun w' x hb hg => ?_⟩;have c:(H.m.fs.set f x).length=H.m.fs.length:=bH;refine⟨?_,h.ge,⟨?_,ak h.ma.sl a (by decide) hg,h.ma.sw.keep a (by decide) (by decide) hg,h.ma.dk.keep a (by decide) (by decide) hg,h.ma.st.keep a (by decide) (by decide) hg,ak h.ma.ca a (by decide) hg,ak h.ma.sp a (by decide) hg,fun q hq=>⟨ak (h.ma.ps q hq).1 a (by decide) hg,(h.ma.ps q hq).2.keep a (by decide) hg⟩,h.ma.c64⟩,h.tz⟩
 ·have:sV { H with m:=⟨H.m.fs.set f x,H.m.hand⟩ } e=sV H e:=by unfold sV;simp only[c]
  rw[this];exact h.blk.grown hg (fun e=>n (aJ e).symm)
 simp only[c];exact i w' _ hb
theorem putAt_one {o:Nat}:∀ {vs:List Value} {j:Nat} {v:Value},(∀i u,vs[i]?=some u→cur[o+i]?=some u)→j<vs.length→bB cur o (vs.set j v)=cur.setIfInBounds (o+j) v:=by
 intro vs j v b hj;apply lS;intro i;rw[zF];have a:∀k,k<vs.length→o+k<cur.size:=fun k hk=>(ib.1 (b k _ (aH hk))).1
 by_cases h1:i<o∨o+vs.length≤i
 ·rw[putAt_out _ _ _ _ (by rw[bH];omega),if_neg (by omega)]
 have hi:i-o<vs.length:=by omega
 have:=putAt_in (vs.set j v) cur o (i-o) ((vs.set j v)[i-o]'(by rw[bH];exact hi)) (by rw[bH];have:=a (vs.length-1) (by omega);omega) (aH _);rw[show o+(i-o)=i by omega] at this;rw[this,CQ]
 by_cases e:j=i-o
 ·rw[if_pos e,if_pos (by omega),if_pos (by have:=a j hj;omega)]
 rw[if_neg e,if_neg (by omega)];have:=b (i-o) _ (aH hi);rw[show o+(i-o)=i by omega] at this;exact this.symm
theorem Iy (s:St) (f i:Int):(dJ s f i).count=s.count∨(dJ s f i).count=0:=by
 unfold dJ;split
 ·exact .inr rfl
 split
 ·exact .inl rfl
 ·exact .inl rfl
theorem RG {o:Nat} (m:World→Prop) (h:∀W,w.grownBy W (some b)→(∀ {cur T},aB w b cur T→aB W b (bB cur o vs) T)→m W):m (w.setCells b o vs).drew:=by
 have h1:=aG w b o vs;exact h _ ⟨h1.os,h1.tape,h1.output,h1.size,h1.block⟩ fun hb=>hb.setCells vs o
theorem MC : (Tryz.prog.info? 4).map (·.size)=some 1:=by kernel_rfl
def QB (B:Nat) (S:St) (N E:Int):mg:=⟨fun v w => ∃u ps k,v = .tuple #[.agg #[u,.int .i64 k],.int .i64 N,.int .i64 E]∧nW w B u ps∧bY ps k=S,fun _ _ _ hb ⟨u,ps,k,h1,h2,h3⟩=>⟨u,ps,k,h1,h2.below hb,h3⟩⟩
def BQ (B:Nat) (d:pR) (E:Int):mg:=⟨fun v w => ∃a b,v = .tuple #[.agg #[a,b],.int .i64 E]∧il w B a b d,fun _ _ _ hb ⟨a,b,h1,h2⟩=>⟨a,b,h1,h2.below hb⟩⟩
theorem ym (H:MH) (e:Int) (f:Nat) (B b:Nat) (w:World) (h:kT w B b H e) (hf:f<H.m.fs.length) :
  Calls Tryz.prog 57 #[.pointer (some ⟨b,0,none⟩),.int .i64 f] w fun r w'=>r = .returned (.bool (iA H.ma f))∧KR w B b H w' (iG ⟨H.ma,e⟩ f):=by
 obtain⟨g,off,cur,h2,gg,hi,kZ,kx,hG,gf,kh⟩:=h.frame hf;generalize hx:aN H.ma f=x at *
 have hg:=Lib.hid hx;clear hx kh;have hc:=h.blk.cell;unfold sV at hc;rw[h2] at hc;have ge:(f:Int)<(H.m.fs.length:Int):=by omega
 have q10:cur[off+f*13+10]?=some (.bool x.d):=hG 10 _ rfl;have q11:cur[off+f*13+11]?=some (.int .i64 x.f):=hG 11 _ rfl;have q12:cur[off+f*13+12]?=some (.int .i64 x.i):=hG 12 _ rfl;have kD:=hi.cell;have kB:=hi.free;have k1:=Lib.hid hG;clear hG;go_enter func57,ntmps57
 by_cases h1:x.f<0
 ·have hq:Hid (iG ⟨H.ma,e⟩ f=⟨H.ma,e⟩):=Lib.hid (by unfold iG;simp only[hg.out];rw[if_pos (.inl h1)]);have hl:Hid (iA H.ma f=true):=Lib.hid (by unfold iA;rw[hg.out];simp[h1]);have hh:=Lib.hid h;clear h;go_wp2;go_ret;rw[hq.out,hl.out];exact⟨rfl,_,_,hh.out,KS.refl _ _ _,rfl⟩
 cases hd:x.d with
 | false=>
  have hq:Hid (iG ⟨H.ma,e⟩ f=⟨H.ma,e⟩):=Lib.hid (by unfold iG;simp only[hg.out];rw[if_pos (.inr (.inl hd))]);have hl:Hid (iA H.ma f=true):=Lib.hid (by unfold iA;rw[hg.out,hd];simp);rw[hd] at q10;have hh:=Lib.hid h;clear h;go_wp2;go_ret;rw[hq.out,hl.out];exact⟨rfl,_,_,hh.out,KS.refl _ _ _,rfl⟩
 | true=>
  rw[hd] at q10;go_upto_region 4 with (fail);have hm:=Lib.hid h;refine nu 22 [_,_,_,_,_,_,_,_,_,_,_,_,_,.r 13 ((QB w.heap.size (dJ H.ma.st x.f x.i) (dD H.ma.st x.f x.i) (dw H.ma.st x.f x.i))),.r 14 ((QB w.heap.size (dJ H.ma.st x.f x.i) (dD H.ma.st x.f x.i) (dw H.ma.st x.f x.i))),.r 15 ((MX w.heap.size (dJ H.ma.st x.f x.i))),.v (.int .i64 (dD H.ma.st x.f x.i)),.v (.int .i64 (dw H.ma.st x.f x.i)),.r 18 ((ky w.heap.size 37 2)),.y 19 ((Sr 18 w.heap.size 37 (MX w.heap.size (dJ H.ma.st x.f x.i)))),.v (.int .i64 (dD H.ma.st x.f x.i)),.v (.int .i64 (dw H.ma.st x.f x.i))] (fun W=>Below w.heap.size w W) gJ (Below.refl _ _) (Yk gJ rfl (Yk gJ rfl (Yf gJ b 0 rfl rfl (Yf gJ b 7 rfl rfl (Yr gJ (.agg #[.slice H.ai H.fi.length H.ci,.int .i64 H.ct]) (fun ρ y W hb hH=>(bC rfl (aF rfl hH) (h.below hb).rdS underlying37 rfl store_size)) rfl rfl (Yk gJ rfl (Yk gJ rfl (Yf gJ g (off+f*13+11) rfl rfl (Yc gJ (.int .i64 x.f) (fun W hb=>by simp[(hi.ext hb).cell,q11]) rfl rfl rfl rfl (Yk gJ rfl (Yk gJ rfl (Yf gJ g (off+f*13+12) rfl rfl (Yc gJ (.int .i64 x.i) (fun W hb=>by simp[(hi.ext hb).cell,q12]) rfl rfl rfl rfl (ag ?_ (ag ?_ (ag ?_ (ag ?_ (ag ?_ (ag ?_ (ag ?_ (Yk gJ rfl (Yk gJ rfl (aC))))))))))))))))))))))) (fun _=>rfl) rfl ?_
  ·intro ρ y W hw hn hb hd;refine lZ gJ hb ((QB w.heap.size (dJ H.ma.st x.f x.i) (dD H.ma.st x.f x.i) (dw H.ma.st x.f x.i))) (fun _ _ h=>h) ?_;have kW:=hw 35 4 rfl;have h4:y 4 = .agg #[.slice H.ai H.fi.length H.ci,.int .i64 H.ct]:=hd 4 rfl;have kV:=hw 39 8 rfl;have h8:y 8 = .int .i64 x.f:=hd 8 rfl;have kU:=hw 43 12 rfl;have h3:y 12 = .int .i64 x.i:=hd 12 rfl;have EF:∀f,ρ (.func f) = .func (.func f) #[] #[]:=fun f=>hn (.func f) trivial;refine aR _ _ (ah rfl) (aU rfl (EF _) func91 (by kernel_rfl) (by kernel_rfl) (by simp only[bV,bP,bT,kW,h4,kV,h8,kU,h3,EF];rfl)) ?_;refine (Lf H.fi H.ct x.f x.i H.ai H.ci W (h.below hb).ma.rd.st h.ma.c64).mono ?_;rintro r W2 ⟨u,ps,k,rfl,ho,hB,kG⟩;exact⟨_,rfl,kG,u,ps,k,rfl,ho.mono hb.size,hB⟩
  ·intro ρ y W hw hn hb hd;refine lZ gJ hb ((QB w.heap.size (dJ H.ma.st x.f x.i) (dD H.ma.st x.f x.i) (dw H.ma.st x.f x.i))) (fun _ _ h=>h) ?_;have kS:=hw 44 13 rfl;have kJ:=hd 13 rfl;refine aj _ (ah rfl) (run_move (.inl rfl) kS) ?_;exact kJ
  ·intro ρ y W hw hn hb hd;refine lZ gJ hb ((MX w.heap.size (dJ H.ma.st x.f x.i))) (fun _ _ h=>h) ?_;have hI:=hw 30 14 rfl;have hp:=hd 14 rfl;obtain⟨u,ps,k,hu,ho,hB⟩:=hp;refine aj (.agg #[u,.int .i64 k]) (ah rfl) (by simp[execOp,go_sem,bX,hI,hu]) ?_;exact⟨u,ps,k,rfl,ho,hB⟩
  ·intro ρ y W hw hn hb hd;refine lZ gJ hb (ul (.int .i64 (dD H.ma.st x.f x.i))) (fun _ _ h=>h) ?_;have hI:=hw 30 14 rfl;have hp:=hd 14 rfl;obtain⟨u,ps,k,hu,ho,hB⟩:=hp;refine aj (.int .i64 (dD H.ma.st x.f x.i)) (ah rfl) (by simp[execOp,go_sem,bX,hI,hu]) rfl
  ·intro ρ y W hw hn hb hd;refine lZ gJ hb (ul (.int .i64 (dw H.ma.st x.f x.i))) (fun _ _ h=>h) ?_;have hI:=hw 30 14 rfl;have hp:=hd 14 rfl;obtain⟨u,ps,k,hu,ho,hB⟩:=hp;refine aj (.int .i64 (dw H.ma.st x.f x.i)) (ah rfl) (by simp[execOp,go_sem,bX,hI,hu]) rfl
  ·intro ρ y W hw hn hb hd;refine lZ gJ hb ((ky w.heap.size 37 2)) (fun _ _ h=>h) ?_;refine jU (.pointer (some ⟨W.heap.size,0,none⟩)) (ah rfl) (by simp[execOp,go_sem,bX]) ((Below.refl _ _).alloc (ay _) (.cells #[.slice none 0 0,.int .i64 0] 37)) ?_;exact⟨_,_,rfl,hb.size,aB.new _ _ _,rfl⟩
  ·intro ρ y W hw hn hb hd;have E6:=hw 6 18 rfl;have kH:=hd 18 rfl;have kR:=hw 45 15 rfl;have kI:=hd 15 rfl;obtain⟨u,ps,k,e7,ht,kg⟩:=kI;obtain⟨g3,cur3,e9,hF,l,hC⟩:=kH;obtain⟨au,cu,rfl,_⟩:=ht.rd;refine qY (ah rfl) _ _ _ rfl g3 0 (.agg #[.slice au ps.length cu,.int .i64 k]) [.slice au ps.length cu,.int .i64 k] (E6.trans e9) (kR.trans e7) rfl cur3 _ l (by rw[hC];exact ay _) store_size (bS (rT _ _ _ _)) ?_;intro w1 hj a;rw[show [Value.slice au ps.length cu,Value.int .i64 k]=(#[Value.slice au ps.length cu,Value.int .i64 k]:Array Value).toList from rfl,iT cur3 _ (by rw[hC];rfl)] at hj;refine⟨hb.grown a hb.size (fun k hk=>by cases hk;exact hF),⟨g3,_,e9,hF,hj,⟨_,ps,k,rfl,ht.keep l (by decide) (by decide) a,kg⟩⟩,?_⟩;intro k hk hX
   match k,hk,hX with
   | 0,_,_=>exact fun h=>h
   | 1,_,_=>exact fun h=>h
   | 2,_,_=>exact fun h=>h
   | 3,_,_=>exact fun h=>h
   | 4,_,_=>exact fun h=>h
   | 5,_,_=>exact fun h=>h
   | 6,_,_=>exact fun h=>h
   | 7,_,_=>exact fun h=>h
   | 8,_,_=>exact fun h=>h
   | 9,_,_=>exact fun h=>h
   | 10,_,_=>exact fun h=>h
   | 11,_,_=>exact fun h=>h
   | 12,_,_=>exact fun h=>h
   | 13,_,_=>exact fun⟨c,q0,q1,q2,q3,q4⟩=>⟨c,q0,q1,q2,q3.keep l (by decide) (by decide) a,q4⟩
   | 14,_,_=>exact fun⟨c,q0,q1,q2,q3,q4⟩=>⟨c,q0,q1,q2,q3.keep l (by decide) (by decide) a,q4⟩
   | 15,_,_=>exact fun⟨c,q0,q1,q2,q3,q4⟩=>⟨c,q0,q1,q2,q3.keep l (by decide) (by decide) a,q4⟩
   | 16,_,_=>exact fun h=>h
   | 17,_,_=>exact fun h=>h
   | 18,_,_=>exact fun q=>pM q hj (fun _=>rfl) ⟨_,l⟩ a
   | 19,_,h=>exact absurd rfl h
   | 20,_,_=>exact fun h=>h
   | 21,_,_=>exact fun h=>h
   | n+22,h,_=>exact absurd h (by omega)
  intro y W2 t ha;replace t:Below w.heap.size w W2:=t;have kc:((QB w.heap.size (dJ H.ma.st x.f x.i) (dD H.ma.st x.f x.i) (dw H.ma.st x.f x.i))).r (y 13) W2:=ha 13 (by decide);have hA:((QB w.heap.size (dJ H.ma.st x.f x.i) (dD H.ma.st x.f x.i) (dw H.ma.st x.f x.i))).r (y 14) W2:=ha 14 (by decide);have hz:((MX w.heap.size (dJ H.ma.st x.f x.i))).r (y 15) W2:=ha 15 (by decide);have kb:((ky w.heap.size 37 2)).r (y 18) W2:=ha 18 (by decide);have ka:=ha 19 (by decide);clear ha;simp only[bU,bX,bP,bT];obtain⟨gs,cs,ga,kk,ko,us,ps,ks,hL,hW,hN⟩:=ka;simp only[Cu] at hL;subst hL;obtain⟨au,cu,rfl,_⟩:=hW.rd;have k2:=h.below t;have s2:=(KS.refl w b H).below t;have h0:=hi.ext t;have hD:=kx.below t;have kY:=Lib.hid kk;clear kc hA hz kb hc kD kB kk
  by_cases hE:dw H.ma.st x.f x.i=0
  ·have hq:Hid (iG ⟨H.ma,e⟩ f=⟨setFr { H.ma with st:=dJ H.ma.st x.f x.i,dk:=dC H.dk (dD H.ma.st x.f x.i) x.p } f { x with d:=false },jg e (aL H.dk (dD H.ma.st x.f x.i))⟩):=Lib.hid (by
    unfold iG;simp only[hg.out];rw[if_neg]
    ·rfl
    rintro (q|q|q)
    ·exact h1 q
    ·rw[hd] at q;cases q
    ·exact q hE)
   have hl:Hid (iA H.ma f=true):=Lib.hid (by unfold iA;rw[hg.out,hE];simp);rw[hE];clear hE;have k7:Hid (dw H.ma.st x.f x.i=dw H.ma.st x.f x.i):=Lib.hid rfl;generalize dD H.ma.st x.f x.i=N at *
   go_upto_region 7 with (fail);refine nu 17 [_,_,_,_,_,_,_,_,_,_,.r 10 ((BQ W2.heap.size (dC H.dk N x.p) (aL H.dk N))),.r 11 ((BQ W2.heap.size (dC H.dk N x.p) (aL H.dk N))),.r 12 ((xW W2.heap.size (dC H.dk N x.p))),.v (.int .i64 (aL H.dk N)),.r 14 ((ky W2.heap.size 34 2)),.y 15 ((Sr 14 W2.heap.size 34 (xW W2.heap.size (dC H.dk N x.p)))),.v (.int .i64 (aL H.dk N))] (fun W=>Below W2.heap.size W2 W) gJ (Below.refl _ _) (Yk gJ rfl (Yk gJ rfl (Yf gJ b 0 rfl rfl (Yf gJ b 5 rfl rfl (Yr gJ (.agg #[.slice H.db H.dk.blocks.length H.cdb,.slice H.dq H.dk.queue.length H.cdq]) (fun ρ y W hb hH=>(bC rfl (aF rfl hH) (k2.below hb).rdD underlying34 rfl disk_size)) rfl rfl (Yk gJ rfl (Yk gJ rfl (Yk gJ rfl (Yf gJ g (off+f*13) rfl rfl (Yr gJ (.agg (iB x.p)) (fun ρ y W hb hH=>(bC rfl (aF rfl hH) (uD (hD.below hb) 0 8) underlying79 rfl psize)) rfl rfl (ag ?_ (ag ?_ (ag ?_ (ag ?_ (ag ?_ (ag ?_ (Yk gJ rfl (aC)))))))))))))))))) (fun _=>rfl) rfl ?_
   ·intro ρ y W hw hn hb hd;refine lZ gJ hb ((BQ W2.heap.size (dC H.dk N x.p) (aL H.dk N))) (fun _ _ h=>h) ?_;have kQ:=hw 55 4 rfl;have h4:y 4 = .agg #[.slice H.db H.dk.blocks.length H.cdb,.slice H.dq H.dk.queue.length H.cdq]:=hd 4 rfl;have kP:=hw 56 5 rfl;have h5:y 5 = .int .i64 N:=hd 5 rfl;have kO:=hw 60 9 rfl;have h9:y 9 = .agg (iB x.p):=hd 9 rfl;have EF:∀f,ρ (.func f) = .func (.func f) #[] #[]:=fun f=>hn (.func f) trivial;refine aR _ _ (ah rfl) (aU rfl (EF _) func92 (by kernel_rfl) (by kernel_rfl) (by simp only[bV,bP,bT,kQ,h4,kP,h5,kO,h9,EF];rfl)) ?_;refine (Dp H.dk N x.p H.db H.cdb H.dq H.cdq W (k2.below hb).ma.rd.dk).mono ?_;rintro r W3 ⟨vb,vq,rfl,ho,kF⟩;exact⟨_,rfl,kF,vb,vq,rfl,ho.mono hb.size⟩
   ·intro ρ y W hw hn hb hd;refine lZ gJ hb ((BQ W2.heap.size (dC H.dk N x.p) (aL H.dk N))) (fun _ _ h=>h) ?_;have kM:=hw 61 10 rfl;have kK:=hd 10 rfl;refine aj _ (ah rfl) (run_move (.inl rfl) kM) ?_;exact kK
   ·intro ρ y W hw hn hb hd;refine lZ gJ hb ((xW W2.heap.size (dC H.dk N x.p))) (fun _ _ h=>h) ?_;have h7:=hw 50 11 rfl;have h6:=hd 11 rfl;obtain⟨vb,vq,hu,ho⟩:=h6;refine aj (.agg #[vb,vq]) (ah rfl) (by simp[execOp,go_sem,bX,h7,hu]) ?_;exact⟨vb,vq,rfl,ho⟩
   ·intro ρ y W hw hn hb hd;refine lZ gJ hb (ul (.int .i64 (aL H.dk N))) (fun _ _ h=>h) ?_;have h7:=hw 50 11 rfl;have h6:=hd 11 rfl;obtain⟨vb,vq,hu,ho⟩:=h6;refine aj (.int .i64 (aL H.dk N)) (ah rfl) (by simp[execOp,go_sem,bX,h7,hu]) rfl
   ·intro ρ y W hw hn hb hd;refine lZ gJ hb ((ky W2.heap.size 34 2)) (fun _ _ h=>h) ?_;refine jU (.pointer (some ⟨W.heap.size,0,none⟩)) (ah rfl) (by simp[execOp,go_sem,bX]) ((Below.refl _ _).alloc (ay _) (.cells #[.slice none 0 0,.slice none 0 0] 34)) ?_;exact⟨_,_,rfl,hb.size,aB.new _ _ _,rfl⟩
   ·intro ρ y W hw hn hb hd;have E9:=hw 9 14 rfl;have hp:=hd 14 rfl;have kL:=hw 62 12 rfl;have h3:=hd 12 rfl;obtain⟨vb,vq,e7,ht⟩:=h3;obtain⟨g3,cur3,e9,hF,l,hC⟩:=hp;obtain⟨ab,cb,rfl,_⟩:=ht.b.rd;obtain⟨aq,cq,rfl,_⟩:=ht.q.rd;refine qY (ah rfl) _ _ _ rfl g3 0 (.agg #[.slice ab _ cb,.slice aq _ cq]) [.slice ab _ cb,.slice aq _ cq] (E9.trans e9) (kL.trans e7) rfl cur3 _ l (by rw[hC];exact ay _) disk_size (bS (kN _ _ _ _ _ _)) ?_;intro w1 hj a;rw[show ∀(p q:Value),[p,q]=(#[p,q]:Array Value).toList from fun _ _=>rfl,iT cur3 _ (by rw[hC];rfl)] at hj;refine⟨hb.grown a hb.size (fun k hk=>by cases hk;exact hF),⟨g3,_,e9,hF,hj,⟨_,_,rfl,ht.keep l (by decide) (by decide) a⟩⟩,?_⟩;intro k hk hX
    match k,hk,hX with
    | 0,_,_=>exact fun h=>h
    | 1,_,_=>exact fun h=>h
    | 2,_,_=>exact fun h=>h
    | 3,_,_=>exact fun h=>h
    | 4,_,_=>exact fun h=>h
    | 5,_,_=>exact fun h=>h
    | 6,_,_=>exact fun h=>h
    | 7,_,_=>exact fun h=>h
    | 8,_,_=>exact fun h=>h
    | 9,_,_=>exact fun h=>h
    | 10,_,_=>exact fun⟨c,q0,q1,q2⟩=>⟨c,q0,q1,q2.keep l (by decide) (by decide) a⟩
    | 11,_,_=>exact fun⟨c,q0,q1,q2⟩=>⟨c,q0,q1,q2.keep l (by decide) (by decide) a⟩
    | 12,_,_=>exact fun⟨c,q0,q1,q2⟩=>⟨c,q0,q1,q2.keep l (by decide) (by decide) a⟩
    | 13,_,_=>exact fun h=>h
    | 14,_,_=>exact fun q=>pM q hj (fun _=>rfl) ⟨_,l⟩ a
    | 15,_,h=>exact absurd rfl h
    | 16,_,_=>exact fun h=>h
    | n+17,h,_=>exact absurd h (by omega)
   intro y W3 s z;replace s:Below W2.heap.size W2 W3:=s;have kf:((BQ W2.heap.size (dC H.dk N x.p) (aL H.dk N))).r (y 10) W3:=z 10 (by decide);have ke:((BQ W2.heap.size (dC H.dk N x.p) (aL H.dk N))).r (y 11) W3:=z 11 (by decide);have kd:((xW W2.heap.size (dC H.dk N x.p))).r (y 12) W3:=z 12 (by decide);have hA:((ky W2.heap.size 34 2)).r (y 14) W3:=z 14 (by decide);have hz:=z 15 (by decide);clear z;simp only[bU,bX,bP,bT];obtain⟨gd,cd,gb,gc,kp,vb,vq,hM,hJ⟩:=hz;simp only[Cu] at hM;subst hM;obtain⟨ab,cb,rfl,_⟩:=hJ.b.rd;obtain⟨aq,cq,rfl,_⟩:=hJ.q.rd;have k3:=k2.below s;have s3:=s2.below s;have hS:=ko.ext s;have hR:=hW.below s;have kw:=Lib.hid s2.size;have ki:=hD.below s;clear kf ke kd hA k2 s2 h0 ko hW s hD
   go_wp2_with fail
   refine (uw _ e (aL H.dk N) _ _ _ k3).mono ?_;rintro r w4 ⟨rfl,k4,hv⟩;have s4:=s3.putB hv rfl rfl rfl;have hP:=hJ.keep k3.blk (by decide) (by decide) hv;have hQ:=hR.keep k3.blk (by decide) (by decide) hv;have hr:=bq hS k3.blk (by decide) hv;have hs:=bq kp k3.blk (by decide) hv;clear k3 s3 hJ hR hS kp hv ki;have kn:=k4.blk.cell;have kC:=k4.blk.free;unfold sV at kn;have hL:=hr.cell;have hM:=hs.cell;have n1:=lQ k4.blk hr (by decide);have n2:=lQ k4.blk hs (by decide);have n3:=lQ hr hs (by decide);go_upto_region 9 with (fail)
   go_region
   refine RG (w:=w4.setCells b 7 [.slice au ps.length cu,.int .i64 ks]) (b:=b) (o:=5) (vs:=[.slice ab (dC H.dk N x.p).blocks.length cb,.slice aq (dC H.dk N x.p).queue.length cq]) (fun W=>Exit.then _ _ _ _ W) fun w6 hY kr => ?_;have km : -9223372036854775808≤ks∧ks≤9223372036854775807:=by
    have e1:ks=(dJ H.ma.st x.f x.i).count:=by rw[←hN];rfl
    have e2:=h.ma.c64;have e3:H.ma.st.count=H.ct:=rfl;rcases Iy H.ma.st x.f x.i with e4|e4<;>rw[e1,e4]<;>omega
   have hK:=aG w4 b 7 [.slice au ps.length cu,.int .i64 ks];have kt:=k4.blk.setCells [.slice au ps.length cu,.int .i64 ks] 7;have k5:=k4.setS (hQ.mono h.bs) km kt hK;have s5:=s4.putB (H':={ H with ai:=au,ci:=cu,fi:=ps,ct:=ks }) hK rfl rfl rfl;have hO:=hP.keep k4.blk (by decide) (by decide) hK;have hT:=kr k5.blk;have k6:=k5.setD (hO.mono (bi h.bs kw.out)) hT hY;have s6:=s5.putB (H':={ H with ai:=au,ci:=cu,fi:=ps,ct:=ks,db:=ab,cdb:=cb,dq:=aq,cdq:=cq,dk:=dC H.dk N x.p }) hY rfl rfl rfl;clear kr hT hY k5 s5 hO kt hK km k4 s4 hP hQ kn kC hL hM hr hs;obtain⟨g7,off7,cur7,ku,k9,hZ,kA,kX,hU,k0,hV⟩:=k6.frame hf;have kz:g7=g∧off7=off:=by have:H.af=some ⟨g7,off7,none⟩:=ku;rw[h2] at this;simp only[iY,vM,and_true] at this;exact⟨this.1.symm,this.2.symm⟩
   obtain⟨rfl,rfl⟩:=kz;have kv:aN (MH.ma { H with ai:=au,ci:=cu,fi:=ps,ct:=ks,db:=ab,cdb:=cb,dq:=aq,cdq:=cq,dk:=dC H.dk N x.p }) f=x:=hg.out;rw[kv] at hU;have kj:=putAt_one (v:=.bool false) (j:=10) hU (by rw[fJ];decide)
   go_wp2_with (refine aA rfl _ _ _ rfl g7 (off7+f*13+10) _ [.bool false] rfl rfl rfl _ _ hZ (by simp;omega) MC (fun u hu=>by cases bv.1 hu;rfl) ?_)
   intro w8 kE kl;have kq : aB w8 g7 (bB cur7 (off7+f*13) (qf { x with d:=false })) 81:=by have e1:qf { x with d:=false }=(qf x).set 10 (.bool false):=rfl;rw[e1,kj];exact kE
   have k8:=hV w8 { x with d:=false } kq kl;have s8:=s6.put (H':={ H with ai:=au,ci:=cu,fi:=ps,ct:=ks,db:=ab,cdb:=cb,dq:=aq,cdq:=cq,dk:=dC H.dk N x.p,m:=⟨H.m.fs.set f { x with d:=false },H.m.hand⟩ }) kl (.inr (.inl (by show oB H.af=_;rw[h2];rfl))) fun y hy => .inl (Hm rfl rfl rfl hy);go_wp2;go_ret;rw[hq.out,hl.out];refine⟨rfl,_,_,k8,s8,?_⟩;unfold MH.ma setFr;simp only[hN];rfl
  have hq:Hid (iG ⟨H.ma,e⟩ f=⟨H.ma,e⟩):=Lib.hid (by unfold iG;simp only[hg.out];rw[if_pos (.inr (.inr hE))]);have hl:Hid (iA H.ma f=false):=Lib.hid (by unfold iA;rw[hg.out];simp only[zx,decide_eq_false_iff_not,Bool.not_eq_false'];exact⟨⟨h1,hd⟩,hE⟩);go_wp2;go_ret;rw[hq.out,hl.out];exact⟨rfl,_,_,k2,s2,rfl⟩
theorem PT (k:Kp) (p:Nat) (n:Int) (x:En):(jT k p n x).m.sp.length=k.m.sp.length:=by
 unfold jT;split
 ·exact uF
 ·rfl
theorem Qa (k:Kp) (p:Nat) (n:Int) (x:En):(jT k p n x).m.ca=k.m.ca:=by unfold jT;split<;>rfl
theorem Qj (k:Kp) (p:Nat) (n:Int) (x:En):(jT k p n x).m.m=k.m.m:=by unfold jT;split<;>rfl
theorem PO (k:Kp) (f n:Int):(iJ k f n).m.sp=k.m.sp:=by unfold iJ;split<;>rfl
theorem Qz (k:Kp) (f n:Int):(iJ k f n).m.ca=k.m.ca:=by unfold iJ;split<;>rfl
theorem PM (k:Kp) (f n:Int):(iJ k f n).m.m.fs.length=k.m.m.fs.length:=by
 unfold iJ;split
 ·rename_i h;show (lL k.m.m f n).fs.length=_;unfold lL;rw[if_pos h];exact bH
 ·rfl
theorem Pm (k:Kp) (f n:Int):(pu k f n).m.sp=k.m.sp:=by unfold pu;split<;>rfl
theorem Oo (k:Kp) (f n:Int):(pu k f n).m.ca=k.m.ca:=by unfold pu;split<;>rfl
theorem PN (k:Kp) (f n:Int):(pu k f n).m.m=k.m.m:=by unfold pu;split<;>rfl
structure jJ (k k' : Kp):Prop where
 sp:k'.m.sp.length=k.m.sp.length
 ca:k'.m.ca=k.m.ca
 fs:k'.m.m.fs.length=k.m.m.fs.length
theorem jJ.refl (k:Kp):jJ k k:=⟨rfl,rfl,rfl⟩
theorem jJ.trans {a b c:Kp} (h:jJ a b) (k:jJ b c):jJ a c:=⟨k.sp.trans h.sp,k.ca.trans h.ca,k.fs.trans h.fs⟩
theorem jJ.enter (k:Kp) (p:Nat) (n:Int) (x:En):jJ k (jT k p n x):=⟨PT k p n x,Qa k p n x,by rw[Qj]⟩
theorem jJ.hold (k:Kp) (f n:Int):jJ k (iJ k f n):=⟨by rw[PO],Qz k f n,PM k f n⟩
theorem jJ.shold (k:Kp) (f n:Int):jJ k (pu k f n):=⟨by rw[Pm],Oo k f n,by rw[PN]⟩
theorem jJ.drop (k:Kp) (p:Nat) (n:Int):jJ k (qh k p n):=by
 unfold qh;simp only;split
 ·exact (jJ.hold _ _ _).trans (jJ.enter _ _ _ _)
 split
 ·exact (jJ.shold _ _ _).trans (jJ.enter _ _ _ _)
 ·exact .refl _
theorem jJ.drops:∀(l:List (Nat × Int)) (k:Kp),jJ k (kP k l)
 | [],k => .refl k
 | u::l,k=>(jJ.drop k u.1 u.2).trans (jJ.drops l _)
theorem jJ.swap (f n:Int) (k:Kp) (u:Nat × Int):jJ k (Ga f n k u):=(jJ.hold _ _ _).trans (jJ.enter _ _ _ _)
theorem jJ.swaps (f n:Int):∀(l:List (Nat × Int)) (k:Kp),jJ k (rG k f n l)
 | [],k => .refl k
 | u::l,k=>(jJ.swap f n k u).trans (jJ.swaps f n l _)
theorem jJ.clean (k:Kp) (f:Nat):jJ k (iG k f):=by
 unfold iG;simp only;split
 ·exact .refl _
 ·exact⟨rfl,rfl,bH⟩
theorem Nn (k:Kp) (l:List (Nat × Int)) (j:Nat) (h:j<l.length):kP k (l.take (j+1))=qh (kP k (l.take j)) l[j].1 l[j].2:=by
 unfold kP;rw[mV,aH h,CX];rfl
theorem Lr (k:Kp) (f n:Int) (l:List (Nat × Int)) (j:Nat) (h:j<l.length):rG k f n (l.take (j+1))=Ga f n (rG k f n (l.take j)) l[j]:=by
 unfold rG;rw[mV,aH h,CX];rfl
theorem nW.stay (h:nW w B v ps) (hg:w.grownBy w' none):nW w' B v ps:=⟨kG h.own hg,fun k p hp=>kG (h.each k p hp) hg,h.apart⟩
theorem qG.stay {t:Tb} (h:qG w B cs t) (hg:w.grownBy w' none):qG w' B cs t:=
 ⟨h.sz,fun k hk=>by obtain⟨v,h1,h2⟩:=h.own k hk;exact⟨v,h1,kG h2 hg⟩,h.apart⟩
theorem kT.cache {e:Int} (h:kT w B b H e) (s:KS w0 b H0 w H) (hg:w.grownBy w1 (oB H.ac)) {l:List Cc} (ho:Own w1 B 106 3 (.slice a l.length c) l.length (l.flatMap mD)) (hsn:oB a=oB H.ac∨∀g,oB a=some g→w0.heap.size≤g) :
  aB w1 b (sV H e) 96∧∀w2,aB w2 b (bB (sV H e) 9 [.slice a l.length c]) 96→w1.grownBy w2 (some b)→kT w2 B b { H with ac:=a,cc:=c,ca:=l } e∧KS w0 b H0 w2 { H with ac:=a,cc:=c,ca:=l }:=by
 have hK:aB w1 b (sV H e) 96:=by refine h.blk.grown hg fun e => ?_;obtain⟨_,cs,hb⟩:=iQ h.ma.ca e;exact lQ h.blk hb (by decide) rfl
 have hm:tu w1 B { H with ac:=a,cc:=c,ca:=l }:=by
  cases hac:oB H.ac with
  | none=>
   rw[hac] at hg;exact⟨kG h.ma.fr hg,kG h.ma.sl hg,⟨kG h.ma.sw.b hg,kG h.ma.sw.q hg⟩,⟨kG h.ma.dk.b hg,kG h.ma.dk.q hg⟩,h.ma.st.stay hg,ho,kG h.ma.sp hg,fun q hq=>⟨kG (h.ma.ps q hq).1 hg,(h.ma.ps q hq).2.stay hg⟩,h.ma.c64⟩
  | some g=>
   rw[hac] at hg;obtain⟨_,cs,hb⟩:=iQ h.ma.ca hac;exact⟨ak h.ma.fr hb (by decide) hg,ak h.ma.sl hb (by decide) hg,h.ma.sw.keep hb (by decide) (by decide) hg,h.ma.dk.keep hb (by decide) (by decide) hg,h.ma.st.keep hb (by decide) (by decide) hg,ho,ak h.ma.sp hb (by decide) hg,fun q hq=>⟨ak (h.ma.ps q hq).1 hb (by decide) hg,(h.ma.ps q hq).2.keep hb (by decide) hg⟩,h.ma.c64⟩
 have s1:KS w0 b H0 w1 H:=by
  cases hac:oB H.ac with
  | none=>
   rw[hac] at hg;exact⟨hg.os.trans s.os,hg.tape.trans s.tape,hg.output.trans s.output,bi s.size hg.size,fun x hx hn=>(hg.block x (pY hx s.size) (by simp)).trans (s.keep x hx hn),s.sn⟩
  | some g=>rw[hac] at hg;exact s.put hg (.inr (.inr (.inl hac))) fun x hx => .inl hx
 refine⟨hK,fun w2 hb d=>⟨⟨hb,h.ge,?_,h.tz⟩,s1.put d (.inl rfl) fun x hx => ?_⟩⟩
 ·exact⟨ak hm.fr hK (by decide) d,ak hm.sl hK (by decide) d,hm.sw.keep hK (by decide) (by decide) d,hm.dk.keep hK (by decide) (by decide) d,hm.st.keep hK (by decide) (by decide) d,ak hm.ca hK (by decide) d,ak hm.sp hK (by decide) d,fun q hq=>⟨ak (hm.ps q hq).1 hK (by decide) d,(hm.ps q hq).2.keep hK (by decide) d⟩,hm.c64⟩
 rcases hx with hx|hx|hx|hx
 ·exact .inl (.inl hx)
 ·exact .inl (.inr (.inl hx))
 ·rcases hsn with e|e
  ·exact .inl (.inr (.inr (.inl (by rw[←e];exact hx))))
  ·exact .inr (e x hx)
 ·exact .inl (.inr (.inr (.inr hx)))
theorem PX {k:Kp} (h:iA k.m f=false):iG k f=k:=by
 unfold iA at h;simp only[zx,decide_eq_false_iff_not] at h;unfold iG;simp only;rw[if_pos (.inr (.inr h.2))]
theorem NY (u:Nat × Int):(uC u).all (·.oneCell')=true:=by simp[uC,Value.oneCell']
theorem slca_size:(Tryz.prog.info? 38).map (·.size)=some 1:=by kernel_rfl
theorem Ve {l:List (Nat × Int)} (h:dP w a (l.flatMap uL)) (k:Nat) (hk:k<l.length):∃b off,a=some ⟨b,off,none⟩∧dP w (some ⟨b,off+k*2,none⟩) [.int .i64 l[k].1,.int .i64 l[k].2]:=jX Vi (by decide) h k hk
theorem LA (H:MH) (e:Int) (f:Nat) (B b:Nat) (w:World) (h:kT w B b H e) (hf:f<H.m.fs.length) (hz:H.sp.length≤1000) (hz2:H.ca.length≤1000) :
  Calls Tryz.prog 90 #[.pointer (some ⟨b,0,none⟩),.int .i64 f] w fun r w'=>r = .returned (.bool (mr H.ma f))∧KR w B b H w' (fH ⟨H.ma,e⟩ f):=by
 obtain⟨g,off,cur,gc,gv,k2,kY,kK,gu,gt,kI⟩:=h.frame hf;generalize hx:aN H.ma f=x at *
 have hR:=Lib.hid hx;clear hx kI gu;have hc:=h.blk.cell;unfold sV at hc;rw[gc] at hc;have gL:(f:Int)<(H.m.fs.length:Int):=by omega
 go_enter func90,ntmps90
 go_wp2_with (first | (refine ax _ _ rfl g (off+f*13) rfl rfl _ kK _ underlying81 rfl frame_size ?_) | (refine aI rfl _ _ _ rfl (vW x) rfl rfl rfl frame_size (qw x) ?_))
 intro w1 kz kn;have h1:=h.below kz;have s1:=(KS.refl w b H).below kz;have hp:¬kb b H w.heap.size:=fun hk=>by obtain⟨cs,T,hb,_⟩:=h.kb_T hk;have:=hb.lt;omega
 have ge:=Lib.hid h.bs;clear hc kK k2 kY kz gv gt gc h
 go_wp2_with fail
 refine (MF H e f B b _ h1 hz).mono ?_;rintro r w2 ⟨v2,rfl,hL,hX⟩;obtain⟨a2,c2,rfl,_⟩:=hL.rd;have h2:=h1.below hX;have s2:=s1.below hX;have hs:=kn.ext hX;have gH:=kn.lt;clear h1 s1 kn hX;have hB:=hs.cell;unfold vW at hB
 by_cases hxf:0≤x.f
 ·go_wp2_with fail
  refine (ym H e f B b _ h2 hf).mono ?_;rintro r w3 ⟨rfl,H3,e3,h3,s3,q3⟩;have hy:=s3.own h2 (hL.mono (aV _)) (by decide);have hN:¬kb b H w.heap.size:=hp;have km:=s3.blkN hs hN;have ki:¬kb b H3 w.heap.size:=fun hk=>(s3.sn _ hk).elim hN (fun hh=>by have:=hs.lt;omega);have s03:=s2.trans s3;have kS:H3.sp.length=H.sp.length∧H3.ca=H.ca∧H3.m.fs.length=H.m.fs.length:=by have hq:=jJ.clean ⟨H.ma,e⟩ f;rw[←q3] at hq;exact⟨by have:=hq.sp;simp only[ER] at this;exact this,hq.ca,hq.fs⟩
  have gi:=hs.lt;clear hB hs hL h2 s2 s3 hp hN;cases hcb:iA H.ma f with
  | false=>
   have hq:Hid (fH ⟨H.ma,e⟩ f=⟨H.ma,e⟩∧mr H.ma f=false):=Lib.hid (by unfold fH mr;simp only[hR.out];rw[if_pos hxf,if_pos hcb,if_pos hxf];exact⟨rfl,hcb⟩);rw[PX (k:=⟨H.ma,e⟩) hcb] at q3;have gl:=Lib.hid q3;clear q3 km;go_wp2;go_ret;rw[hq.out.1,hq.out.2];exact⟨rfl,_,_,h3,s03,gl.out⟩
  | true=>
   have hu:Hid (bn H.ma f=bn H.ma f):=Lib.hid rfl;have gn:(bn H.ma f).length≤64000:=by
    have:=Cm H.ma f H.sp.length;have e1:rV H.ma f H.sp.length=bn H.ma f:=by unfold rV bn;rw[ER]
    rw[e1] at this;omega
   obtain⟨k3,kv⟩:∃k,k=iG ⟨H.ma,e⟩ f:=⟨_,rfl⟩;rw[←kv] at q3;have hI:∀u∈bn H.ma f,u.1<H.sp.length:=fun u hu=>by have:=(um.1 hu).1;rw[ER] at this;exact this
   have hq:Hid (mr H.ma f=true∧fH ⟨H.ma,e⟩ f=if QF (kP k3 (bn H.ma f)).m.ca x.f x.i=true then iJ ⟨{ (kP k3 (bn H.ma f)).m with ca:=(kP k3 (bn H.ma f)).m.ca.eraseIdx (yR (kP k3 (bn H.ma f)).m.ca x.f x.i) },(kP k3 (bn H.ma f)).e⟩ f (-1) else kP k3 (bn H.ma f)):=Lib.hid (by unfold fH mr;simp only[hR.out];rw[if_pos hxf,if_pos hxf,if_neg (by rw[hcb];decide),kv];exact⟨hcb,rfl⟩);generalize bn H.ma f=l at *
   have q3':=Lib.hid q3;have hH:=Lib.hid hI;clear q3 hcb kv hu hI;go_upto_region 7 with (fail)
   go_loopw [38] (fun s38 wr => ∃(j:Nat) (Hj:MH) (ej:Int),j≤l.length∧s38 = .int .i64 j∧kT wr B b Hj ej∧KS w b H wr Hj∧Hid (Kp.mk Hj.ma ej=kP k3 (l.take j))∧Own wr 0 193 2 (.slice a2 l.length c2) l.length (l.flatMap uL)∧aB wr w.heap.size (vW x) 81∧¬kb b Hj w.heap.size∧Hj.sp.length=H.sp.length∧Hj.ca=H.ca) (fun s38 _=>l.length-(intOf s38).toNat)
   case atStart=>exact⟨0,H3,e3,aV _,rfl,h3,s03,Lib.hid (by rw[q3'.out];rfl),hy,km,ki,kS.1,kS.2.1⟩
   case round=>
    clear hy km ki h3 s03;obtain⟨j,Hj,ej,hj,rfl,ha,sj3,qj,z,hQ,kh,hM,kx⟩:=hrel
    by_cases hjl:j<l.length
    ·have kw:(j:Int)<(l.length:Int):=by omega
     obtain⟨_,_,e9,_,_,_,hG⟩:=z.rd;cases e9;obtain⟨bl,ol,rfl,hF⟩:=Ve hG j hjl;have ko:l[j].1<H.sp.length:=hH.out _ (dN hjl)
     go_wp2_with (first | (refine ax _ _ rfl bl (ol+j*2) rfl rfl _ hF _ underlying193 rfl us_size ?_) | (refine aI rfl _ _ _ rfl (uC l[j]) rfl rfl rfl us_size (NY _) ?_))
     intro w5 hl kH;have h5:=ha.below hl;have s5:=sj3.below hl;have hJ:=z.below hl;have hD:=hQ.ext hl;have gE:=hD.lt;clear ha sj3 z hQ hG hF hl;have k1:=kH.cell;unfold uC at k1
     go_wp2_with fail
     refine (PI Hj ej l[j].2 l[j].1 B b _ h5 (by rw[hM];exact ko)).mono ?_;rintro r w6 ⟨rfl,H6,e6,h6,s6,q6⟩;have s:=s6.own h5 hJ (by decide);have gh:=s6.blkN hD kh;have kV:¬kb b H6 w.heap.size:=fun hk=>(s6.sn _ hk).elim kh (fun hh=>by omega);have s06:=s5.trans s6;have hU:H6.sp.length=H.sp.length∧H6.ca=H.ca:=by have hq:=jJ.drop ⟨Hj.ma,ej⟩ l[j].1 l[j].2;rw[←q6] at hq;exact⟨by have:=hq.sp;simp only[ER] at this;rw[this,hM],by have:=hq.ca;exact Eq.trans this kx⟩
     have ks:Hid (Kp.mk H6.ma e6=kP k3 (l.take (j+1))):=Lib.hid (by rw[Nn k3 l j hjl,←qj.out];exact q6);clear q6 h5 s5 hJ hD k1 kH s6;go_wp2;go_roundw
     case rel=>exact⟨j+1,H6,e6,by omega,by go_num,h6,s06,ks,s,gh,kV,hU.1,hU.2⟩
     case measure=>simp[intOf];omega
    have kw:¬(j:Int)<(l.length:Int):=by omega
    rw[iN (by omega)] at qj;clear z;generalize hkd:kP k3 l=kd at *
    clear hkd;have hB:=hQ.cell;unfold vW at hB;have kL:=Lib.hid (show kd.m.ca=Hj.ca by rw[←qj.out];rfl);have gs:Hj.ca.length≤1000:=by rw[kx];exact hz2
    clear kx hM
    go_wp2_with fail
    refine (TM Hj ej x.f x.i B b _ ha).mono ?_;rintro r w5 ⟨rfl,hl⟩;have h5:=ha.below hl;have s5:=sj3.below hl;clear ha sj3 hl hB hQ;cases hi:QF Hj.ca x.f x.i with
    | false=>
     have kt:Hid (fH ⟨H.ma,e⟩ f=kd):=Lib.hid (by rw[hq.out.2,kL.out,hi];rfl);generalize yR Hj.ca x.f x.i=k at *
     go_wp2;go_ret;rw[hq.out.1,kt.out];exact⟨rfl,_,_,h5,s5,qj.out⟩
    | true=>
     have kt:Hid (fH ⟨H.ma,e⟩ f=iJ ⟨{ kd.m with ca:=Hj.ca.eraseIdx (yR Hj.ca x.f x.i) },kd.e⟩ f (-1)):=Lib.hid (by rw[hq.out.2,kL.out,hi,if_pos rfl]);obtain⟨c,hc,_,_⟩:=Ti hi;have kU:=(cK.1 hc).1;clear hc hi;generalize yR Hj.ca x.f x.i=k at *
     have kZ:=h5.blk.cell;unfold sV at kZ;have gI:(k:Int)+1≤1000:=by omega
     have hS:IntKind.i64.wrap ((k:Int)+1)=(k:Int)+1:=bM _ (by omega)
     go_wp2_with fail
     refine (Jq Hj.ca k kU Hj.ac Hj.cc B _ h5.ma.ca gs).mono ?_;rintro r w6 ⟨rfl,s,hg⟩;have kg:(Hj.ca.eraseIdx k).length=Hj.ca.length-1:=yV kU;rw[←kg] at s;obtain⟨hK,kp⟩:=h5.cache s5 hg (a:=Hj.ac) (c:=Hj.cc) (l:=Hj.ca.eraseIdx k) s (.inl rfl);rw[kg] at kp;clear kZ h5 s5 s hg
     go_wp2_with (refine aA rfl _ _ _ rfl b 9 _ [.slice Hj.ac (Hj.ca.length-1) Hj.cc] rfl rfl rfl _ _ hK (by show 9+1≤12;decide) slca_size (fun u hu=>by cases bv.1 hu;rfl) ?_)
     intro w7 hP hr;obtain⟨h7,s7⟩:=kp w7 hP hr;clear kp hK hP hr
     go_wp2_with fail
     refine (AA _ ej f (-1) B b _ h7).mono ?_;rintro r w8 ⟨rfl,gq⟩;go_wp2;go_ret;rw[hq.out.1,kt.out,←qj.out];exact⟨rfl,KR.trans s7 gq⟩
 have kj:=h2.blk.cell;unfold sV at kj;have hm:=h2.ma.rd.sl;have gn:(bn H.ma f).length≤64000:=by
  have:=Cm H.ma f H.sp.length;have e1:rV H.ma f H.sp.length=bn H.ma f:=by unfold rV bn;rw[ER]
  rw[e1] at this;omega
 have hI:∀u∈bn H.ma f,u.1<H.sp.length:=fun u hu=>by have:=(um.1 hu).1;rw[ER] at this;exact this
 have kr:Hid (mr H.ma f=decide (ig H.sl (bn H.ma f).length=0)):=Lib.hid (by unfold mr;rw[hR.out,if_neg hxf];rfl);have kq:Hid (fH ⟨H.ma,e⟩ f=if ig H.sl (bn H.ma f).length≠0 then ⟨H.ma,e⟩ else rG ⟨{ H.ma with sl:=lM H.sl (bn H.ma f).length,sw:=dC H.sw (jF H.sl (bn H.ma f).length) x.p },jg e (aL H.sw (jF H.sl (bn H.ma f).length))⟩ f (jF H.sl (bn H.ma f).length) (bn H.ma f)):=Lib.hid (by unfold fH;simp only[hR.out];rw[if_neg hxf];rfl);generalize bn H.ma f=l at *
 have hH:=Lib.hid hI;clear hI
 go_wp2_with fail
 refine (MQ H.sl H.asl H.csl (l.length:Int) _ hm.le hm.nl hm.rd (by have:=hm.le;have:=hm.mx;unfold maxLen at this;omega)).mono ?_;rintro r w3 ⟨v3,rfl,hy,hv⟩;obtain⟨a3,c3,rfl,_⟩:=hy.rd;have k3:=h2.below hv;have s3:=s2.below hv;have kx3:=hs.ext hv;have kf:=hL.below hv;have gj:=Lib.hid s2.size;clear hB kj h2 s2 hs hL hv hm
 by_cases hE:ig H.sl l.length=0
 ·have hq:Hid (mr H.ma f=true∧fH ⟨H.ma,e⟩ f=rG ⟨{ H.ma with sl:=lM H.sl l.length,sw:=dC H.sw (jF H.sl l.length) x.p },jg e (aL H.sw (jF H.sl l.length))⟩ f (jF H.sl l.length) l):=Lib.hid (by rw[kr.out,kq.out,hE];exact⟨rfl,rfl⟩);rw[hE];clear hE kr kq;generalize jF H.sl l.length=N at *
  go_upto_region 19 with (fail);refine nu 15 [_,_,_,_,_,_,_,_,.r 8 ((BQ w3.heap.size (dC H.sw N x.p) (aL H.sw N))),.r 9 ((BQ w3.heap.size (dC H.sw N x.p) (aL H.sw N))),.r 10 ((xW w3.heap.size (dC H.sw N x.p))),.v (.int .i64 (aL H.sw N)),.r 12 ((ky w3.heap.size 34 2)),.y 13 ((Sr 12 w3.heap.size 34 (xW w3.heap.size (dC H.sw N x.p)))),.v (.int .i64 (aL H.sw N))] (fun W=>Below w3.heap.size w3 W) gJ (Below.refl _ _) (Yk gJ rfl (Yk gJ rfl (Yf gJ b 0 rfl rfl (Yf gJ b 3 rfl rfl (Yr gJ (.agg #[.slice H.wb H.sw.blocks.length H.cwb,.slice H.wq H.sw.queue.length H.cwq]) (fun ρ y W hb kA=>(bC rfl (aF rfl kA) (k3.below hb).rdW underlying34 rfl disk_size)) rfl rfl (Yk gJ rfl (Yf gJ w.heap.size 0 rfl rfl (Yr gJ (.agg (iB x.p)) (fun ρ y W hb kA=>(bC rfl (aF rfl kA) (bJ (kx3.ext hb) 0 8) underlying79 rfl psize)) rfl rfl (ag ?_ (ag ?_ (ag ?_ (ag ?_ (ag ?_ (ag ?_ (Yk gJ rfl (aC)))))))))))))))) (fun _=>rfl) rfl ?_
  ·intro ρ y W hw hn hb hd;refine lZ gJ hb ((BQ w3.heap.size (dC H.sw N x.p) (aL H.sw N))) (fun _ _ h=>h) ?_;have gC:=hw 94 4 rfl;have h4:y 4 = .agg #[.slice H.wb H.sw.blocks.length H.cwb,.slice H.wq H.sw.queue.length H.cwq]:=hd 4 rfl;have gB:=hw 95 5 rfl;have h5:y 5 = .int .i64 N:=hd 5 rfl;have gA:=hw 97 7 rfl;have h7:y 7 = .agg (iB x.p):=hd 7 rfl;have EF:∀f,ρ (.func f) = .func (.func f) #[] #[]:=fun f=>hn (.func f) trivial;refine aR _ _ (ah rfl) (aU rfl (EF _) func92 (by kernel_rfl) (by kernel_rfl) (by simp only[bV,bP,bT,gC,h4,gB,h5,gA,h7,EF];rfl)) ?_;refine (Dp H.sw N x.p H.wb H.cwb H.wq H.cwq W (k3.below hb).ma.rd.sw).mono ?_;rintro r W3 ⟨vb,vq,rfl,ho,hv⟩;exact⟨_,rfl,hv,vb,vq,rfl,ho.mono hb.size⟩
  ·intro ρ y W hw hn hb hd;refine lZ gJ hb ((BQ w3.heap.size (dC H.sw N x.p) (aL H.sw N))) (fun _ _ h=>h) ?_;have gz:=hw 98 8 rfl;have h8:=hd 8 rfl;refine aj _ (ah rfl) (run_move (.inl rfl) gz) ?_;exact h8
  ·intro ρ y W hw hn hb hd;refine lZ gJ hb ((xW w3.heap.size (dC H.sw N x.p))) (fun _ _ h=>h) ?_;have kB:=hw 89 9 rfl;have h9:=hd 9 rfl;obtain⟨vb,vq,hu,ho⟩:=h9;refine aj (.agg #[vb,vq]) (ah rfl) (by simp[execOp,go_sem,bX,kB,hu]) ?_;exact⟨vb,vq,rfl,ho⟩
  ·intro ρ y W hw hn hb hd;refine lZ gJ hb (ul (.int .i64 (aL H.sw N))) (fun _ _ h=>h) ?_;have kB:=hw 89 9 rfl;have h9:=hd 9 rfl;obtain⟨vb,vq,hu,ho⟩:=h9;refine aj (.int .i64 (aL H.sw N)) (ah rfl) (by simp[execOp,go_sem,bX,kB,hu]) rfl
  ·intro ρ y W hw hn hb hd;refine lZ gJ hb ((ky w3.heap.size 34 2)) (fun _ _ h=>h) ?_;refine jU (.pointer (some ⟨W.heap.size,0,none⟩)) (ah rfl) (by simp[execOp,go_sem,bX]) ((Below.refl _ _).alloc (ay _) (.cells #[.slice none 0 0,.slice none 0 0] 34)) ?_;exact⟨_,_,rfl,hb.size,aB.new _ _ _,rfl⟩
  ·intro ρ y W hw hn hb hd;have gD:=hw 14 12 rfl;have gw:=hd 12 rfl;have gy:=hw 99 10 rfl;have gx:=hd 10 rfl;obtain⟨vb,vq,e7,ku⟩:=gx;obtain⟨g3,cur3,e9,kX,hC,kJ⟩:=gw;obtain⟨ab,cb,rfl,_⟩:=ku.b.rd;obtain⟨aq,cq,rfl,_⟩:=ku.q.rd;refine qY (ah rfl) _ _ _ rfl g3 0 (.agg #[.slice ab _ cb,.slice aq _ cq]) [.slice ab _ cb,.slice aq _ cq] (gD.trans e9) (gy.trans e7) rfl cur3 _ hC (by rw[kJ];exact ay _) disk_size (bS (kN _ _ _ _ _ _)) ?_;intro w1 hS hA;rw[show ∀(p q:Value),[p,q]=(#[p,q]:Array Value).toList from fun _ _=>rfl,iT cur3 _ (by rw[kJ];rfl)] at hS;refine⟨hb.grown hA hb.size (fun k hk=>by cases hk;exact kX),⟨g3,_,e9,kX,hS,⟨_,_,rfl,ku.keep hC (by decide) (by decide) hA⟩⟩,?_⟩;intro k hk gm
   match k,hk,gm with
   | 0,_,_=>exact fun h=>h
   | 1,_,_=>exact fun h=>h
   | 2,_,_=>exact fun h=>h
   | 3,_,_=>exact fun h=>h
   | 4,_,_=>exact fun h=>h
   | 5,_,_=>exact fun h=>h
   | 6,_,_=>exact fun h=>h
   | 7,_,_=>exact fun h=>h
   | 8,_,_=>exact fun⟨c,q0,q1,q2⟩=>⟨c,q0,q1,q2.keep hC (by decide) (by decide) hA⟩
   | 9,_,_=>exact fun⟨c,q0,q1,q2⟩=>⟨c,q0,q1,q2.keep hC (by decide) (by decide) hA⟩
   | 10,_,_=>exact fun⟨c,q0,q1,q2⟩=>⟨c,q0,q1,q2.keep hC (by decide) (by decide) hA⟩
   | 11,_,_=>exact fun h=>h
   | 12,_,_=>exact fun q=>pM q hS (fun _=>rfl) ⟨_,hC⟩ hA
   | 13,_,h=>exact absurd rfl h
   | 14,_,_=>exact fun h=>h
   | n+15,h,_=>exact absurd h (by omega)
  intro y W4 d t;replace d:Below w3.heap.size w3 W4:=d;have gg:((BQ w3.heap.size (dC H.sw N x.p) (aL H.sw N))).r (y 8) W4:=t 8 (by decide);have gf:((BQ w3.heap.size (dC H.sw N x.p) (aL H.sw N))).r (y 9) W4:=t 9 (by decide);have kE:((xW w3.heap.size (dC H.sw N x.p))).r (y 10) W4:=t 10 (by decide);have kD:((ky w3.heap.size 34 2)).r (y 12) W4:=t 12 (by decide);have kC:=t 13 (by decide);clear t;simp only[bU,bX,bP,bT];obtain⟨gd,cd,gG,gK,ga,vb,vq,hV,hT⟩:=kC;simp only[Cu] at hV;subst hV;obtain⟨ab,cb,rfl,_⟩:=hT.b.rd;obtain⟨aq,cq,rfl,_⟩:=hT.q.rd;have k4:=k3.below d;have s4:=s3.below d;have kx4:=kx3.ext d;have ke:=kf.below d;have hZ:=hy.below d;have gk:=Lib.hid s3.size;have gF:=kx4.lt;clear gg gf kE kD k3 s3 kx3 kf hy d
  go_wp2_with fail
  refine (uw _ e (aL H.sw N) _ _ _ k4).mono ?_;rintro r w5 ⟨rfl,k5,ht⟩;have s5:=s4.putB ht rfl rfl rfl;have kx5:aB w5 w.heap.size (vW x) 81:=kx4.grown ht (fun e=>hp (.inl (aJ e).symm));have kc:=ak ke k4.blk (by decide) ht;have hY:=ak hZ k4.blk (by decide) ht;have hJ:=hT.keep k4.blk (by decide) (by decide) ht;have hO:=bq ga k4.blk (by decide) ht;clear k4 s4 kx4 ke hZ hT ga ht;have hcb:=k5.blk.cell;have gr:=k5.blk.free;unfold sV at hcb;have hV:=hO.cell;have n2:=lQ k5.blk hO (by decide);go_upto_region 21 with (fail)
  go_region
  refine RG (w:=w5.setCells b 2 [.slice a3 (lM H.sl l.length).length c3]) (b:=b) (o:=3) (vs:=[.slice ab (dC H.sw N x.p).blocks.length cb,.slice aq (dC H.sw N x.p).queue.length cq]) (fun W=>Exit.then _ _ _ _ W) fun w7 hr hP => ?_;have hg:=aG w5 b 2 [.slice a3 (lM H.sl l.length).length c3];have gb:=k5.blk.setCells [.slice a3 (lM H.sl l.length).length c3] 2;have k6:=k5.setL (hY.mono (bi ge.out gj.out)) gb hg;have s6:=s5.putB (H':={ H with asl:=a3,csl:=c3,sl:=lM H.sl l.length }) hg rfl rfl rfl;have s:=hJ.keep k5.blk (by decide) (by decide) hg;have ka:=ak kc k5.blk (by decide) hg;have kx6:=kx5.grown hg (fun e=>hp (.inl (aJ e).symm));have kl:=hP k6.blk;have k7:=k6.setW (s.mono (bi ge.out gk.out)) kl hr;have s7:=s6.putB (H':={ H with asl:=a3,csl:=c3,sl:=lM H.sl l.length,wb:=ab,cwb:=cb,wq:=aq,cwq:=cq,sw:=dC H.sw N x.p }) hr rfl rfl rfl;have h0:=(ak ka k6.blk (by decide) hr).mono (aV _);have kx7:=kx6.grown hr (fun e=>hp (.inl (aJ e).symm));clear hP kl hr k6 s6 s ka kx6 gb hg k5 s5 kx5 kc hY hJ hO hcb gr hV;generalize hH7:({ H with asl:=a3,csl:=c3,sl:=lM H.sl l.length,wb:=ab,cwb:=cb,wq:=aq,cwq:=cq,sw:=dC H.sw N x.p }:MH)=H7 at k7 s7;have kQ:Hid (Kp.mk H7.ma (jg e (aL H.sw N))=⟨{ H.ma with sl:=lM H.sl l.length,sw:=dC H.sw N x.p },jg e (aL H.sw N)⟩):=Lib.hid (by rw[←hH7];rfl);have gp:H7.sp.length=H.sp.length:=by rw[←hH7]
  rw[←kQ.out] at hq;clear hH7 kQ;generalize jg e (aL H.sw N)=e7 at *
  generalize hk7:Kp.mk H7.ma e7=kk at *
  have kW:=Lib.hid hk7;clear hk7;go_upto_region 23 with (fail)
  go_loopw [116] (fun s116 wr => ∃(j:Nat) (Hj:MH) (ej:Int),j≤l.length∧s116 = .int .i64 j∧kT wr B b Hj ej∧KS w b H wr Hj∧Hid (Kp.mk Hj.ma ej=rG kk f N (l.take j))∧Own wr 0 193 2 (.slice a2 l.length c2) l.length (l.flatMap uL)∧Hj.sp.length=H.sp.length) (fun s116 _=>l.length-(intOf s116).toNat)
  case atStart=>exact⟨0,H7,e7,aV _,rfl,k7,s7,Lib.hid (by rw[kW.out];rfl),h0,gp⟩
  case round=>
   clear k7 s7 h0 kx7;obtain⟨j,Hj,ej,hj,rfl,ha,sj3,qj,z,hM⟩:=hrel
   by_cases hjl:j<l.length
   ·have kw:(j:Int)<(l.length:Int):=by omega
    obtain⟨_,_,e9,_,_,_,hG⟩:=z.rd;cases e9;obtain⟨bl,ol,rfl,hF⟩:=Ve hG j hjl;have ko:l[j].1<H.sp.length:=hH.out _ (dN hjl)
    go_wp2_with (first | (refine ax _ _ rfl bl (ol+j*2) rfl rfl _ hF _ underlying193 rfl us_size ?_) | (refine aI rfl _ _ _ rfl (uC l[j]) rfl rfl rfl us_size (NY _) ?_))
    intro w8 hW kG;have k8:=ha.below hW;have s8:=sj3.below hW;have kO:=z.below hW;clear ha sj3 z hG hF hW
    go_wp2_with fail
    refine (AA Hj ej f (-1) B b _ k8).mono ?_;rintro r w9 ⟨rfl,H9,e9,k9,s9,q9⟩;have kM:=s9.own k8 kO (by decide);have kF:=s9.blk k8 kG (by decide);have s09:=s8.trans s9;have kR:H9.sp.length=H.sp.length:=by have hq:=jJ.hold ⟨Hj.ma,ej⟩ f (-1);rw[←q9] at hq;have:=hq.sp;simp only[ER] at this;rw[this,hM]
    have q9':=Lib.hid q9;clear k8 s8 kO kG s9 q9;have k0:=kF.cell;unfold uC at k0
    go_wp2_with fail
    refine (vH H9 e9 l[j].2 l[j].1 ⟨2,N,false⟩ B b _ k9 (by rw[kR];exact ko)).mono ?_;rintro r w6 ⟨rfl,H6,e6,h6,s6,q6⟩;have s:=s6.own k9 kM (by decide);have s06:=s09.trans s6;have ks:Hid (Kp.mk H6.ma e6=rG kk f N (l.take (j+1))):=Lib.hid (by rw[Lr kk f N l j hjl,←qj.out];unfold Ga;rw[←q9'.out];exact q6);have hU:H6.sp.length=H.sp.length:=by have hq:=jJ.enter ⟨H9.ma,e9⟩ l[j].1 l[j].2 ⟨2,N,false⟩;rw[←q6] at hq;have:=hq.sp;simp only[ER] at this;rw[this,kR]
    clear q6 k9 s09 kM k0 kF s6;go_wp2;go_roundw
    case rel=>exact⟨j+1,H6,e6,by omega,by go_num,h6,s06,ks,s,hU⟩
    case measure=>simp[intOf];omega
   have kw:¬(j:Int)<(l.length:Int):=by omega
   rw[iN (by omega)] at qj;clear z;go_wp2;go_ret;rw[hq.out.1,hq.out.2];exact⟨rfl,_,_,ha,sj3,qj.out⟩
 have hq:Hid (mr H.ma f=false∧fH ⟨H.ma,e⟩ f=⟨H.ma,e⟩):=Lib.hid (by rw[kr.out,kq.out,if_pos hE];exact⟨decide_eq_false hE,rfl⟩);go_wp2;go_ret;rw[hq.out.1,hq.out.2];exact⟨rfl,_,_,k3,s3,rfl⟩
structure BS (k k' : Kp):Prop where
 sp:k'.m.sp.length=k.m.sp.length
 ca:k'.m.ca.length≤k.m.ca.length
 fs:k'.m.m.fs.length=k.m.m.fs.length
theorem BS.refl (k:Kp):BS k k:=⟨rfl,ay _,rfl⟩
theorem BS.trans {a b c:Kp} (h:BS a b) (k:BS b c):BS a c:=⟨k.sp.trans h.sp,bi k.ca h.ca,k.fs.trans h.fs⟩
theorem jJ.l {a b:Kp} (h:jJ a b):BS a b:=⟨h.sp,by rw[h.ca];exact ay _,h.fs⟩
theorem BS.evict (k:Kp) (f:Nat):BS k (fH k f):=by
 unfold fH;simp only;split
 ·split
  ·exact .refl _
  have h1:=(jJ.clean k f).trans (jJ.drops (bn k.m f) (iG k f));split
  ·refine (BS.trans ?_ (jJ.hold _ f (-1)).l);exact⟨h1.sp,by show (List.eraseIdx _ _).length≤_;rw[h1.ca];exact List.length_eraseIdx_le _ _,h1.fs⟩
  ·exact h1.l
 split
 ·exact .refl _
 refine BS.trans ?_ (jJ.swaps _ _ _ _).l;exact⟨rfl,ay _,rfl⟩
theorem PR {m:Mem} (h:bL m=0):(fM m).fs.length=m.fs.length:=by
 unfold fM;rw[if_neg (by rw[h];simp)];split
 ·rfl
 ·exact iP _ _
theorem QT {m:Mem} (h:bL m=0) (hk:¬iM m<0):(iM m).toNat<m.fs.length∧iM m=(((iM m).toNat:Nat):Int):=by
 unfold iM at hk ⊢;rw[if_neg (by rw[h];simp)] at hk ⊢;split at hk
 ·omega
 rename_i hne;rw[if_neg hne];have a:0<m.fs.length:=by
  rcases sS m.fs.length with h0|h0
  ·have:=EO m.fs;omega
  ·exact h0
 rw[bR];exact⟨oh a _,rfl⟩
theorem Xc {k:Kp} {e:Int} (q:Kp.mk H.ma e=k):H.sp.length=k.m.sp.length∧H.ca=k.m.ca∧H.m=k.m.m:=by
 subst q;exact⟨(ER H).symm,rfl,rfl⟩
theorem Jd (H:MH) (e:Int) (B b:Nat) (w:World) (h:kT w B b H e) (hz:H.sp.length≤1000) (hz2:H.ca.length≤1000) (hz3:H.m.fs.length≤1000) :
  Calls Tryz.prog 56 #[.pointer (some ⟨b,0,none⟩)] w fun r w'=>r = .returned (.bool (eB ⟨H.ma,e⟩).2)∧KR w B b H w' (eB ⟨H.ma,e⟩).1:=by
 have hc:=h.blk.cell;unfold sV at hc;have hw:=Lib.hid h.bs;go_enter func56,ntmps56;have hp:IntKind.i64.wrap (2*(H.m.fs.length:Int))=2*(H.m.fs.length:Int):=bM _ (by omega);have hn:IntKind.i64.wrap (2*(H.m.fs.length:Int)+1)=2*(H.m.fs.length:Int)+1:=bM _ (by omega);go_upto_region 2 with (fail);have hN:Hid (eB ⟨H.ma,e⟩=reclaimN (2*H.m.fs.length+1) ⟨H.ma,e⟩):=Lib.hid rfl;have h':=Lib.hid h;generalize hNN:2*H.m.fs.length+1=N at hN;have hi:(2*(H.m.fs.length:Int)+1)=(N:Int):=by omega
 have hu:N≤2001:=by omega
 clear h hc hp hn;rw[hi];clear hi hNN
 go_loopw [15] (fun s15 wr => ∃(j:Nat) (Hj:MH) (ej:Int),j≤N∧s15 = .int .i64 j∧kT wr B b Hj ej∧KS w b H wr Hj∧Hid (reclaimN N ⟨H.ma,e⟩=reclaimN (N-j) ⟨Hj.ma,ej⟩)∧Hid (Hj.sp.length=H.sp.length∧Hj.ca.length≤H.ca.length∧Hj.m.fs.length=H.m.fs.length)) (fun s15 _=>N-(intOf s15).toNat)
 case atStart=>exact⟨0,H,e,aV _,rfl,h'.out,.refl _ _ _,Lib.hid rfl,Lib.hid ⟨rfl,ay _,rfl⟩⟩
 case round=>
  clear h';obtain⟨j,Hj,ej,hj,rfl,d,sj3,qj,hl⟩:=hrel
  by_cases hjl:j<N
  ·have hs:(j:Int)<(N:Int):=by omega
   go_wp2_with (refine ax _ _ rfl b 0 rfl rfl _ d.rdM _ underlying28 rfl mem_size ?_)
   refine (Pd Hj.m _ _ _ d.ma.rd.fr).mono ?_;rintro r w1 ⟨vb,rfl,ho,u⟩;obtain⟨a1,c1,rfl,_⟩:=Ci ho;have h1:=d.below u;have s1:=sj3.below u;have ht:=Lib.hid d.bs;have hm:=Lib.hid sj3.size;clear d sj3 u
   go_wp2_with (refine aI rfl _ _ _ rfl #[.slice a1 (fM Hj.m).fs.length c1,.int .i64 (fM Hj.m).hand] rfl rfl rfl mem_size (jf _ _ _ _) ?_)
   intro w2 l v;have h2:=h1.below l;have s2:=s1.below l;have x:=ho.below l;clear h1 s1 ho l
   go_wp2_with fail
   refine (uw _ ej (bL Hj.m) _ _ _ h2).mono ?_;rintro r w3 ⟨rfl,h3,k⟩;have s3:=s2.putB k rfl rfl rfl;have q:=ak x h2.blk (by decide) k;have p:=bq v h2.blk (by decide) k;clear h2 s2 x v k;have c:Hid (reclaimN N ⟨H.ma,e⟩=reclaimN (N-(j+1)+1) ⟨Hj.ma,ej⟩):=Lib.hid (by rw[qj.out,show N-(j+1)+1=N-j by omega]);clear qj
   by_cases h0:bL Hj.m=0
   ·rw[h0,qX] at h3
    by_cases hk:iM Hj.m<0
    ·have hq:Hid (eB ⟨H.ma,e⟩=(⟨Hj.ma,ej⟩,false)):=Lib.hid (by rw[hN.out,c.out];unfold reclaimN;rw[if_pos (.inr hk)];show (Kp.mk Hj.ma (jg ej (bL Hj.m)),false)=_;rw[h0,qX]);rw[h0];go_wp2;go_ret;rw[hq.out];exact⟨rfl,_,_,h3,s3,rfl⟩
    obtain⟨y,f⟩:=QT h0 hk;have hr:=Lib.hid (PR h0);have o:=Lib.hid f;generalize hF:(iM Hj.m).toNat=F at y f o;have hv:¬(F:Int)<0:=by omega
    rw[f] at hk;rw[h0,f];clear f hk;have hx:=p.cell
    go_wp2_with (first | (refine ax _ _ rfl _ 0 rfl rfl [.slice a1 (fM Hj.m).fs.length c1,.int .i64 (fM Hj.m).hand] (bJ p 0 2) _ underlying28 rfl mem_size ?_) | (refine gP rfl _ _ _ rfl b 0 _ rfl rfl _ _ h3.blk (by show 0+2≤12;decide) mem_size (jf _ _ _ _) ?_))
    intro w4 hh t;have h4:=h3.setM (q.mono ht.out) hh t;have s4:KS w b H w4 { Hj with af:=a1,cf:=c1,m:=fM Hj.m }:=s3.putF t (q.mono hm.out) (ay _) rfl rfl;clear h3 s3 q p hx hh t;have g:Hid (reclaimN N ⟨H.ma,e⟩=if mr (MH.ma { Hj with af:=a1,cf:=c1,m:=fM Hj.m }) F=true then (fH ⟨MH.ma { Hj with af:=a1,cf:=c1,m:=fM Hj.m },ej⟩ F,true) else reclaimN (N-(j+1)) (fH ⟨MH.ma { Hj with af:=a1,cf:=c1,m:=fM Hj.m },ej⟩ F)):=Lib.hid (by
     rw[c.out]
     conv=>lhs;unfold reclaimN
     have hc:¬(bL (Kp.m ⟨Hj.ma,ej⟩).m≠0∨iM (Kp.m ⟨Hj.ma,ej⟩).m<0):=by
      rintro (e|e)
      ·exact e h0
      have:iM Hj.m<0:=e;rw[o.out] at this;omega
     rw[if_neg hc];rw[show (iM (Kp.m ⟨Hj.ma,ej⟩).m).toNat=F from hF];rfl)
    obtain⟨hg,hf,s⟩:=hl.out;have hd:(MH.sp { Hj with af:=a1,cf:=c1,m:=fM Hj.m }).length=H.sp.length∧(MH.ca { Hj with af:=a1,cf:=c1,m:=fM Hj.m }).length≤H.ca.length∧(MH.m { Hj with af:=a1,cf:=c1,m:=fM Hj.m }).fs.length=H.m.fs.length:=⟨hg,hf,hr.out.trans s⟩;have n:=y;rw[s] at n;have a:=Lib.hid hd;clear hd hg hf s;generalize ({ Hj with af:=a1,cf:=c1,m:=fM Hj.m }:MH)=H4 at h4 s4 g a
    go_wp2_with fail
    refine (LA H4 ej F B b _ h4 (by rw[a.out.2.2];exact n) (by rw[a.out.1];exact hz) (bi a.out.2.1 hz2)).mono ?_;rintro r w5 ⟨rfl,H5,e5,h5,s5,q5⟩;have s05:=s4.trans s5;have i:=BS.evict ⟨H4.ma,ej⟩ F;obtain⟨m1,m2,m3⟩:=Xc q5;have ha:H5.sp.length=H.sp.length∧H5.ca.length≤H.ca.length∧H5.m.fs.length=H.m.fs.length:=by have a1:=i.sp;have a2:=i.ca;have a3:=i.fs;rw[show (Kp.m ⟨H4.ma,ej⟩).sp.length=H4.sp.length from ER H4] at a1;exact⟨by rw[m1,a1];exact a.out.1,by rw[m2];exact bi a2 a.out.2.1,by rw[m3];exact a3.trans a.out.2.2⟩
    have q5':=Lib.hid q5;have z:=Lib.hid ha;clear h4 s4 s5 q5 i m1 m2 m3 ha;cases hb:mr H4.ma F with
    | true=>
     have hq:Hid (eB ⟨H.ma,e⟩=(⟨H5.ma,e5⟩,true)):=Lib.hid (by rw[hN.out,g.out,hb,if_pos rfl,q5'.out]);go_wp2;go_ret;rw[hq.out];exact⟨rfl,_,_,h5,s05,rfl⟩
    | false=>
     have hq:Hid (reclaimN N ⟨H.ma,e⟩=reclaimN (N-(j+1)) ⟨H5.ma,e5⟩):=Lib.hid (by rw[g.out,hb,if_neg (by decide),q5'.out]);clear g c;go_wp2;go_roundw
     case rel=>exact⟨j+1,H5,e5,by omega,by go_num,h5,s05,hq,z⟩
     case measure=>simp[intOf];omega
   have hq:Hid (eB ⟨H.ma,e⟩=(⟨Hj.ma,jg ej (bL Hj.m)⟩,false)):=Lib.hid (by rw[hN.out,c.out];unfold reclaimN;rw[if_pos (.inl h0)];rfl);go_wp2;go_ret;rw[hq.out];exact⟨rfl,_,_,h3,s3,rfl⟩
  have hs:¬(j:Int)<(N:Int):=by omega
  have hq:Hid (eB ⟨H.ma,e⟩=(⟨Hj.ma,ej⟩,false)):=Lib.hid (by rw[hN.out,qj.out,show N-j=0 by omega];rfl);clear qj;go_wp2;go_ret;rw[hq.out];exact⟨rfl,_,_,d,sj3,rfl⟩
theorem OI : (Tryz.prog.info? 86).map (·.size)=some 9:=by kernel_rfl
def EZ (f:Int→Bool) (q:Int × Page):Bool:=!(f q.1)
theorem Lu (q:Int × Page) (g gm n:Nat) (f:Int→Bool) (w:World) (hg:aB w g #[.map (some gm)] 203) (hM:nV w gm n f) (hq : -9223372036854775808≤q.1∧q.1≤9223372036854775807) :
  Calls Tryz.prog 135 #[.agg (ES q),.pointer (some ⟨g,0,none⟩)] w fun r w'=>r = .returned (.bool (EZ f q))∧Below w.heap.size w w':=by
 go_enter func135,ntmps135;go_upto_region 1 with (fail);refine gB (fun W=>Code.wp _ _ _ _ W) fun W0 a b c => ?_;clear c;have e:=(hg.ext a).cell 0;have h:=b.cell;have d:=(hM.below a).look q.1 hq;have q0:(ES q)[0]?=some (.int .i64 q.1):=rfl;go_wp2;go_ret;exact⟨rfl,a⟩
theorem Tq {l:List (Int × Page)} (h:dP w a (l.flatMap yP)) (k:Nat) (hk:k<l.length):∃b off,a=some ⟨b,off,none⟩∧dP w (some ⟨b,off+k*9,none⟩) (yP l[k]):=jX uV (by decide) h k hk
theorem MO (l:List (Int × Page)) (a:Option Addr) (c:Nat) (w:World) (hrd:dP w a (l.flatMap yP)) (hl:l.length≤9223372036854775807) (g gm n:Nat) (f:Int→Bool) (hg:aB w g #[.map (some gm)] 203) (hM:nV w gm n f) (hq:∀q∈l,-9223372036854775808≤q.1∧q.1≤9223372036854775807) :
  Calls Tryz.prog 148 #[.slice a l.length c,.func (.func 135) #[] #[.pointer (some ⟨g,0,none⟩)]] w fun e w'=>e = .returned (.int .i64 (idx (EZ f) l))∧Below w.heap.size w w':=by
 go_enter func148,ntmps148;go_wp2
 go_loopw [8] (fun i wr => ∃k:Nat,k≤l.length∧i = .int .i64 k∧Below w.heap.size w wr∧∀i (h:i<l.length),i<k→(EZ f) l[i]=false) (fun i _=>l.length-(intOf i).toNat)
 case atStart=>exact⟨0,aV _,rfl,Below.refl _ _,fun i _ h=>absurd h (dV _)⟩
 case round=>
  obtain⟨k,hk,rfl,j,p⟩:=hrel;have hp:=Lib.hid p;clear p
  by_cases hlt:k<l.length
  ·obtain⟨b,off,rfl,s⟩:=Tq (hrd.below j) k hlt
   go_wp2_with (refine ax _ _ rfl b (off+k*9) rfl rfl _ s _ underlying86 rfl OI ?_)
   refine (Lu l[k] g gm n f _ (hg.ext j) (hM.below j) (hq _ (dN hlt))).mono ?_;rintro e w2 ⟨rfl,r⟩;have m:=ae j r;clear r;cases hpk:(EZ f) l[k]
   ·have o:=Lib.hid hpk;clear hpk;go_wp2;go_roundw
    case rel=>exact⟨k+1,by omega,by go_num,m,lN hp.out hlt o.out⟩
    case measure=>simp[intOf];omega
   have d:=Lib.hid (tN (EZ f) l k hlt hp.out hpk);clear hpk;go_wp2;go_ret;exact⟨aT d.out.symm,m⟩
  have d:=Lib.hid (lc (EZ f) l fun i h=>hp.out i h (by omega));go_wp2;go_ret;exact⟨aT d.out.symm,j⟩
theorem Ng (l:List (Int × Page)) (a:Option Addr) (c:Nat) (w:World) (hrd:dP w a (l.flatMap yP)) (hl:l.length≤9223372036854775807) (g gm n:Nat) (f:Int→Bool) (hg:aB w g #[.map (some gm)] 203) (hM:nV w gm n f) (hq:∀q∈l,-9223372036854775808≤q.1∧q.1≤9223372036854775807) :
  Calls Tryz.prog 134 #[.slice a l.length c,.func (.func 135) #[] #[.pointer (some ⟨g,0,none⟩)]] w fun e w'=>e = .returned (.bool (l.any (EZ f)))∧Below w.heap.size w w':=by
 go_enter func134,ntmps134
 go_wp2_with fail
 refine (MO l a c _ hrd hl g gm n f hg hM hq).mono ?_;rintro e w2 ⟨rfl,b⟩;go_wp2;go_ret;exact⟨bK (nE _ _),b⟩
theorem Sv (hk:k<m.dk.blocks.length) (h:(decide ((k:Int)∈kE m.st)||decide (m.dk.blocks.getD k zPg=zPg))=false):trimB m=false:=by
 unfold trimB;rw[IG];refine .inl (List.all_eq_false.2 ⟨k,dE.2 hk,?_⟩);rw[h];decide
theorem SI (h:∀j:Nat,j<m.dk.blocks.length→(decide ((j:Int)∈kE m.st)||decide (m.dk.blocks.getD j zPg=zPg))=true):trimB m = !(m.dk.queue.any (EZ (rW (kE m.st)))):=by
 unfold trimB;rw[dK.2 (fun j hj=>h j (dE.1 hj)),lu,List.any_eq_not_all_not,Bool.not_not];congr 1;funext q;simp[EZ,rW]
theorem Ko (H:MH) (b:Nat) (w:World) (hb:aB w b (dh H) 41) (h:BR w H) (h0:aO (bY H.fi H.ct)=0) (hd:aY H.dk=0) :
  Calls Tryz.prog 110 #[.pointer (some ⟨b,0,none⟩)] w fun r w'=>r = .returned (.bool (trimB H.ma))∧Below w.heap.size w w':=by
 have kb:=@run_makeMap Tryz.prog;have kq:H.fi.length≤5:=by simpa[bY] using (jY h0).1
 have kd:Hid (∀p∈H.fi,p.l.length≤12∧∀x∈p.l,-1≤x∧x<80):=Lib.hid (fun p hp=>by obtain⟨h1,h2,h3,h4⟩:=vg h0 p.fi (gW.2 ⟨p,hp,rfl⟩);have h5:=wX (n:=p.fi.n) h2;have h6:=(jY h0).2.2;refine⟨by have h7:(p.l.length:Int)=dW p.fi.n:=h3;omega,fun x hx=>⟨(h4 x hx).1,by have:=(h4 x hx).2;omega⟩⟩);obtain⟨kk,h9⟩:=xL hd;have h8:Hid (∀q∈H.dk.queue,-9223372036854775808≤q.1∧q.1≤9223372036854775807):=Lib.hid (fun q hq=>by obtain⟨i,hi,rfl⟩:=jC.1 hq;have:=xD hd i hi;omega);have H0:=Lib.hid h0;have HD:=Lib.hid hd;clear h0 hd;have ht:=Lib.hid (zD H.fi H.ct);go_enter func110,ntmps110;go_upto_region 2 with (fail);refine gB (fun W=>Code.wp _ _ _ _ W) fun w2 hF hC hw => ?_;have v:Below w.heap.size w w2:=ae ((Below.refl _ _).alloc (ay _) _) hF;have hG:nV w2 w.heap.size 0 (rW (((H.fi.take 0).map PF.fi).flatMap Fi.b)):=(nV.made w).below hF;have hg : aB w2 (w.heap.size+1) #[.map (some w.heap.size)] 203:=by have e:(w.alloc (Obj.map #[] 0)).heap.size=w.heap.size+1:=zk _;rw[e] at hC;exact hC
 obtain⟨gm,hH⟩:∃g,g=w.heap.size:=⟨_,rfl⟩;have hR:Hid (w.heap.size≤gm):=Lib.hid (by omega);rw[←hH] at hG hg ⊢;rw[←hH] at hR;have kp:w.heap.size≤gm:=by omega
 clear hF hC hw kb hH hR;have hB:=hb.ext v;have u:=hB.cell;unfold dh at u;have H5:(H.fi.length:Int)≤5:=by omega
 go_upto_region 3 with (fail);clear u hB
 go_loopw [17] (fun i wr => ∃(q n:Nat),q≤H.fi.length∧i = .int .i64 q∧n≤12*q∧Below w.heap.size w wr∧aB wr (gm+1) #[.map (some gm)] 203∧nV wr gm n (rW (((H.fi.take q).map PF.fi).flatMap Fi.b))) (fun i _=>H.fi.length-(intOf i).toNat)
 case atStart=>exact⟨0,0,aV _,rfl,ay _,v,hg,hG⟩
 case round=>
  clear v hg hG;obtain⟨q,n,hq,rfl,hn,c,hx,hM⟩:=hrel
  by_cases hlt:q<H.fi.length
  ·obtain⟨bf,of,ki,t⟩:=jX jL (by decide) (h.below c).st.rd q hlt;obtain⟨p,hp⟩:∃p,H.fi[q]?=some p:=⟨_,aH hlt⟩;rw[show H.fi[q]=p from (cK.1 hp).2] at t;have hr:=(h.below c).st.good p (bO hp);obtain⟨kj,hN⟩:=kd.out p (bO hp);have hY:=Lib.hid (take_at hp);have hZ:(q:Int)<(H.fi.length:Int):=by omega
   generalize hseen:((H.fi.take q).map PF.fi).flatMap Fi.b=seen at hM;have hv:=Lib.hid hseen;have hL:=Lib.hid hN;clear hseen hp hN;rw[ki]
   go_wp2_with (first | (refine ax _ _ rfl bf (of+q*2) rfl rfl _ t _ underlying67 rfl file_size ?_) | (refine aI rfl _ _ _ rfl (pK p) rfl rfl rfl file_size (qE p) ?_))
   intro w3 f fx3;have o:=ae c f;have ha:=hx.ext f;have hf:=hM.below f;have hy:=hr.below f;have kn:=Lib.hid c.size;have kl:=Lib.hid hx.lt;clear c hx hM f t hr;have hT:=fx3.cell;unfold pK at hT;have hV:nV w3 gm n (rW (seen++p.l.take 0)):=by simpa using hf
   have ko:=hy.le;have ka:=hy.mx;have s:=hy.rd;unfold maxLen at ka;clear hf hy;go_upto_region 6 with (fail);clear hT fx3
   go_loopw [24] (fun i wr => ∃(j m:Nat),j≤p.l.length∧i = .int .i64 j∧m≤n+j∧Below w.heap.size w wr∧aB wr (gm+1) #[.map (some gm)] 203∧nV wr gm m (rW (seen++p.l.take j))∧dP wr p.a (p.l.map fT)) (fun i _=>p.l.length-(intOf i).toNat)
   case atStart=>exact⟨0,n,aV _,rfl,ay _,o,ha,hV,s⟩
   case round=>
    clear o ha hV s;obtain⟨j,m,hj,rfl,hm,c,hx,hM,s⟩:=hrel
    by_cases hjl:j<p.l.length
    ·obtain⟨x,hX⟩:∃x,p.l[j]?=some x:=⟨p.l[j],aH hjl⟩;obtain⟨b2,off2,hD,hc⟩:=jv s j hjl;rw[show p.l[j]=x from (cK.1 hX).2] at hc;have hI:=Lib.hid (take_at hX);have km:=hL.out x (bO hX);have hA:=Lib.hid s;have hO:=Lib.hid hD;have hQ : (j:Int)<(p.l.length:Int):=by omega
     have hS:=hx.cell;rw[hD];clear hX s hD;generalize hw:seen++p.l.take j=seen2 at hM;have hJ : Hid (seen++p.l.take (j+1)=seen2++[x]):=Lib.hid (by rw[hI.out,←jG,hw]);clear hw
     go_wp2_with (refine wP hM (by omega) rfl _ _ _ rfl rfl x rfl rfl (by omega) ?_)
     intro w6 hU z;rw[DT,←hJ.out] at hU;have kg:=c.grown z c.size (fun k hk=>by cases hk;omega);have hW:=hx.grown z (fun e=>by have:=aJ e;omega);have hK:=hM.rdv hA.out z;clear c hx hM z hS hc hA;go_wp2;go_roundw
     case rel=>exact⟨j+1,m+1,by omega,by go_num,by omega,kg,hW,hU,by rw[←hO.out];exact hK⟩
     case measure=>simp[intOf];omega
    have hQ : ¬(j:Int)<(p.l.length:Int):=by omega
    rw[iN (by omega)] at hM;have hz : nV wr gm m (rW (((H.fi.take (q+1)).map PF.fi).flatMap Fi.b)):=by rw[hY.out,jb,eY,hv.out];simpa[PF.fi] using hM
    clear hM s;go_wp2;go_roundw
    case rel=>exact⟨q+1,m,by omega,by go_num,by omega,c,hx,hz⟩
    case measure=>simp[intOf];omega
  have hZ:¬(q:Int)<(H.fi.length:Int):=by omega
  rw[iN (by omega)] at hM;have hz : nV wr gm n (rW (kE H.ma.st)):=hM;clear hM;have ht:=hb.ext c;have u:=ht.cell;unfold dh at u;go_upto_region 12 with (fail);clear u ht
  go_loopw [38] (fun i wr => ∃(k:Nat),k≤H.dk.blocks.length∧i = .int .i64 k∧Below w.heap.size w wr∧aB wr (gm+1) #[.map (some gm)] 203∧nV wr gm n (rW (kE H.ma.st))∧Hid (∀j:Nat,j<k→(decide ((j:Int)∈kE H.ma.st)||decide (H.dk.blocks.getD j zPg=zPg))=true)) (fun i _=>H.dk.blocks.length-(intOf i).toNat)
  case atStart=>exact⟨0,aV _,rfl,c,hx,hz,Lib.hid fun j hj=>absurd hj (dV _)⟩
  case round=>
   clear c hx hz;obtain⟨k,hk,rfl,c,hx,hM,d⟩:=hrel
   by_cases hkl:k<H.dk.blocks.length
   ·obtain⟨bd,od,ke,t⟩:=jX kD (by decide) (h.below c).dk.rb k hkl;have kc:(k:Int)<(H.dk.blocks.length:Int):=by omega
    have hs:Hid (H.dk.blocks.getD k zPg=H.dk.blocks[k]):=Lib.hid (by rw[aS,aH hkl];rfl);generalize hP:H.dk.blocks[k]=P at t hs;clear hP;rw[ke]
    go_wp2_with (first | (refine ax _ _ rfl bd (od+k*8) rfl rfl _ t _ underlying79 rfl psize ?_) | (refine aI rfl _ _ _ rfl (iB P) rfl rfl rfl psize (jy _) ?_))
    intro w3 f px3;have o:=ae c f;have ha:=hx.ext f;have hf:=hM.below f;clear c hx hM f t;have hS:=ha.cell;have hl:=hf.look k (by omega);have kf:=px3.cell;rw[Nu] at kf;cases hu:rW (kE H.ma.st) (k:Int) with
    | true=>
     rw[hu] at hl;have y:Hid (∀j:Nat,j<k+1→(decide ((j:Int)∈kE H.ma.st)||decide (H.dk.blocks.getD j zPg=zPg))=true):=Lib.hid fun j hj=>by
      by_cases e:j=k
      ·subst e;rw[show decide ((j:Int)∈kE H.ma.st)=true from hu];rfl
      ·exact d.out j (by omega)
     clear hu d;go_wp2;go_roundw
     case rel=>exact⟨k+1,by omega,by go_num,o,ha,hf,y⟩
     case measure=>simp[intOf];omega
    | false=>
     rw[hu] at hl;have hE:∀W,(Op.equalIn 10000 79 (.agg #[.int .u8 P[0].toNat,.int .u8 P[1].toNat,.int .u8 P[2].toNat,.int .u8 P[3].toNat,.int .u8 P[4].toNat,.int .u8 P[5].toNat,.int .u8 P[6].toNat,.int .u8 P[7].toNat]) (.agg #[.int .u8 0,.int .u8 0,.int .u8 0,.int .u8 0,.int .u8 0,.int .u8 0,.int .u8 0,.int .u8 0])).run Tryz.prog W = .ok (P==zPg) W:=fun W=>WK P zPg W
     by_cases hp0:P=zPg
     ·have y:Hid (∀j:Nat,j<k+1→(decide ((j:Int)∈kE H.ma.st)||decide (H.dk.blocks.getD j zPg=zPg))=true):=Lib.hid fun j hj=>by
       by_cases e:j=k
       ·subst e;rw[hs.out,decide_eq_true hp0,IP]
       ·exact d.out j (by omega)
      have hh:(P==zPg)=true:=by rw[hp0];exact beq_self_eq_true _
      rw[hh] at hE;clear hu d hh hp0 hs;go_wp2;go_roundw
      case rel=>exact⟨k+1,by omega,by go_num,o,ha,hf,y⟩
      case measure=>simp[intOf];omega
     have hh:(P==zPg)=false:=by rw[beq_eq_false_iff_ne];exact hp0
     have hq:Hid (trimB H.ma=false):=Lib.hid (Sv (k:=k) hkl (by show (decide ((k:Int)∈kE H.ma.st)||decide (H.dk.blocks.getD k zPg=zPg))=false;rw[hs.out,decide_eq_false hp0,show decide ((k:Int)∈kE H.ma.st)=false from hu];rfl));rw[hh] at hE;clear hu d hh hp0 hs;go_wp2;go_ret;rw[hq.out];exact⟨rfl,o⟩
   have kc:¬(k:Int)<(H.dk.blocks.length:Int):=by omega
   have hq:Hid (trimB H.ma = !(H.dk.queue.any (EZ (rW (kE H.ma.st))))):=Lib.hid (SI fun j hj=>d.out j (by have:j<H.dk.blocks.length:=hj;omega));have ht:=hb.ext c;have u:=ht.cell;unfold dh at u;have hd:=(h.below c).dk;clear d
   go_wp2_with fail
   refine (Ng H.dk.queue H.dq H.cdq _ hd.rq (by omega) (gm+1) gm n (rW (kE H.ma.st)) hx hM h8.out).mono ?_;rintro r w4 ⟨rfl,kh⟩;go_wp2;go_ret;rw[hq.out];exact⟨rfl,ae c kh⟩
def Hu (m:Ma):List Int:=[bL m.m,dn m.sl,aY m.sw,aY m.dk,aO m.st]
theorem Qe (hk:k<5) (h:∀j,j<k→(Hu m).getD j 0=0) (hne:(Hu m).getD k 0≠0):ic m=(Hu m).getD k 0:=by
 unfold ic;have e0:0<k→bL m.m=0:=fun h'=>h 0 h';have e1:1<k→dn m.sl=0:=fun h'=>h 1 h';have e2:2<k→aY m.sw=0:=fun h'=>h 2 h';have e3:3<k→aY m.dk=0:=fun h'=>h 3 h'
 match k,hk with
 | 0,_=>rw[if_pos (show bL m.m≠0 from hne)];rfl
 | 1,_=>rw[if_neg (by rw[e0 (by omega)];simp),if_pos (show dn m.sl≠0 from hne)];rfl
 | 2,_=>rw[if_neg (by rw[e0 (by omega)];simp),if_neg (by rw[e1 (by omega)];simp),if_pos (show aY m.sw≠0 from hne)];rfl
 | 3,_=>rw[if_neg (by rw[e0 (by omega)];simp),if_neg (by rw[e1 (by omega)];simp),if_neg (by rw[e2 (by omega)];simp),if_pos (show aY m.dk≠0 from hne)];rfl
 | 4,_=>rw[if_neg (by rw[e0 (by omega)];simp),if_neg (by rw[e1 (by omega)];simp),if_neg (by rw[e2 (by omega)];simp),if_neg (by rw[e3 (by omega)];simp),if_pos (show aO m.st≠0 from hne)];rfl
 | n+5,h'=>omega
def WJ (B:Nat) (H:MH):mg:=⟨fun v w => ∃g,v = .slice (some ⟨g,0,none⟩) 5 5∧aB w g #[.int .i64 (bL H.m),.int .i64 (dn H.sl),.int .i64 (aY H.sw),.int .i64 (aY H.dk),.int .i64 (aO (bY H.fi H.ct))] 43,fun _ _ _ hb ⟨g,h1,h2⟩=>⟨g,h1,h2.ext hb⟩⟩
theorem OQ (H:MH) (b:Nat) (w:World) (hbk:aB w b (dh H) 41) (h:BR w H) :
  Calls Tryz.prog 66 #[.pointer (some ⟨b,0,none⟩)] w fun r w'=>r = .returned (.int .i64 (ic H.ma))∧Below w.heap.size w w':=by
 go_enter func66,ntmps66;go_upto_region 1 with (fail);refine aM 28 [_,_,_,_,.v (.int .i64 (bL H.m)),_,_,_,_,.v (.int .i64 (dn H.sl)),_,_,_,_,.v (.int .i64 (aY H.sw)),_,_,_,_,.v (.int .i64 (aY H.dk)),_,_,_,_,.v (.int .i64 (aO (bY H.fi H.ct))),.r 25 ((WJ w.heap.size H)),.v (.int .i64 5),_] (Gk rfl (Gk rfl (Gf b 0 rfl rfl (Gr (.agg #[.slice H.af H.m.fs.length H.cf,.int .i64 H.m.hand]) (fun ρ y W hb g=>(bC rfl (aF rfl g) (bJ (hbk.ext hb) 0 2) underlying28 rfl (by kernel_rfl))) rfl rfl (ag ?_ (Gk rfl (Gk rfl (Gf b 2 rfl rfl (Gl hbk rfl rfl rfl rfl rfl (ag ?_ (Gk rfl (Gk rfl (Gf b 3 rfl rfl (Gr (.agg #[.slice H.wb H.sw.blocks.length H.cwb,.slice H.wq H.sw.queue.length H.cwq]) (fun ρ y W hb g=>(bC rfl (aF rfl g) (bJ (hbk.ext hb) 3 2) underlying34 rfl (by kernel_rfl))) rfl rfl (ag ?_ (Gk rfl (Gk rfl (Gf b 5 rfl rfl (Gr (.agg #[.slice H.db H.dk.blocks.length H.cdb,.slice H.dq H.dk.queue.length H.cdq]) (fun ρ y W hb g=>(bC rfl (aF rfl g) (bJ (hbk.ext hb) 5 2) underlying34 rfl (by kernel_rfl))) rfl rfl (ag ?_ (Gk rfl (Gk rfl (Gf b 7 rfl rfl (Gr (.agg #[.slice H.ai H.fi.length H.ci,.int .i64 H.ct]) (fun ρ y W hb g=>(bC rfl (aF rfl g) (bJ (hbk.ext hb) 7 2) underlying37 rfl (by kernel_rfl))) rfl rfl (ag ?_ (ag ?_ (ag ?_ (Gr (.int .i64 0) (fun ρ y W hb g=>(run_move (.inl rfl) (aF rfl g))) rfl rfl (aC))))))))))))))))))))))))))))) (fun _=>rfl) rfl ?_
 ·intro ρ y W hw hn hb hd;have kw:=hw 12 3 rfl;have h3:y 3=_:=hd 3 rfl;have EF:∀f,ρ (.func f) = .func (.func f) #[] #[]:=fun f=>hn (.func f) trivial;refine aR _ _ (ah rfl) (aU rfl (EF _) func107 (by kernel_rfl) (by kernel_rfl) (by simp only[bV,bP,bT,kw,h3,EF];rfl)) ?_;refine (yj H.m _ _ W (h.below hb).fr).mono ?_;rintro r w1 ⟨rfl,p⟩;exact⟨_,rfl,p,rfl⟩
 ·intro ρ y W hw hn hb hd;have ku:=hw 17 8 rfl;have h8:y 8=_:=hd 8 rfl;have EF:∀f,ρ (.func f) = .func (.func f) #[] #[]:=fun f=>hn (.func f) trivial;refine aR _ _ (ah rfl) (aU rfl (EF _) func108 (by kernel_rfl) (by kernel_rfl) (by simp only[bV,bP,bT,ku,h8,EF];rfl)) ?_;refine (wL H.sl _ _ W (h.below hb).sl.rd (by have:=h.sl.le;have:=h.sl.mx;unfold maxLen at this;omega)).mono ?_;rintro r w1 ⟨rfl,rfl⟩;exact⟨_,rfl,Below.refl _ _,rfl⟩
 ·intro ρ y W hw hn hb hd;have ks:=hw 22 13 rfl;have kk:y 13=_:=hd 13 rfl;have EF:∀f,ρ (.func f) = .func (.func f) #[] #[]:=fun f=>hn (.func f) trivial;refine aR _ _ (ah rfl) (aU rfl (EF _) func93 (by kernel_rfl) (by kernel_rfl) (by simp only[bV,bP,bT,ks,kk,EF];rfl)) ?_;refine (rF H.sw _ _ _ _ W (h.below hb).sw).mono ?_;rintro r w1 ⟨rfl,p⟩;exact⟨_,rfl,p,rfl⟩
 ·intro ρ y W hw hn hb hd;have kq:=hw 27 18 rfl;have ki:y 18=_:=hd 18 rfl;have EF:∀f,ρ (.func f) = .func (.func f) #[] #[]:=fun f=>hn (.func f) trivial;refine aR _ _ (ah rfl) (aU rfl (EF _) func93 (by kernel_rfl) (by kernel_rfl) (by simp only[bV,bP,bT,kq,ki,EF];rfl)) ?_;refine (rF H.dk _ _ _ _ W (h.below hb).dk).mono ?_;rintro r w1 ⟨rfl,p⟩;exact⟨_,rfl,p,rfl⟩
 ·intro ρ y W hw hn hb hd;have ko:=hw 32 23 rfl;have kg:y 23=_:=hd 23 rfl;have EF:∀f,ρ (.func f) = .func (.func f) #[] #[]:=fun f=>hn (.func f) trivial;refine aR _ _ (ah rfl) (aU rfl (EF _) func109 (by kernel_rfl) (by kernel_rfl) (by simp only[bV,bP,bT,ko,kg,EF];rfl)) ?_;refine (Em H.fi H.ct _ _ W (h.below hb).st h.c64).mono ?_;rintro r w1 ⟨rfl,p⟩;exact⟨_,rfl,p,rfl⟩
 ·intro ρ y W hw hn hb hd;have kv:=hw 13 4 rfl;have h4:y 4=_:=hd 4 rfl;have kt:=hw 18 9 rfl;have h9:y 9=_:=hd 9 rfl;have kr:=hw 23 14 rfl;have kj:y 14=_:=hd 14 rfl;have kp:=hw 28 19 rfl;have kh:y 19=_:=hd 19 rfl;have kn:=hw 33 24 rfl;have kf:y 24=_:=hd 24 rfl;refine jU (.slice (some ⟨W.heap.size,0,none⟩) 5 5) (ah rfl) (by simp[execOp,go_sem,kv.trans h4,kt.trans h9,kr.trans kj,kp.trans kh,kn.trans kf]) ((Below.refl _ _).alloc (ay _) (.cells #[.int .i64 (bL H.m),.int .i64 (dn H.sl),.int .i64 (aY H.sw),.int .i64 (aY H.dk),.int .i64 (aO (bY H.fi H.ct))] 43)) ?_;exact⟨_,rfl,aB.new _ _ _⟩
 ·intro ρ y W hw hn hb hd;have km:=hw 34 25 rfl;have ke:=hd 25 rfl;obtain⟨ge,hu,_⟩:=ke;refine aj (.int .i64 5) (ah rfl) (by simp[execOp,go_sem,km,hu]) rfl
 intro y W1 hG hI;have hV:((WJ w.heap.size H)).r (y 25) W1:=hI 25 (by decide);clear hI;obtain⟨ge,hu,hW⟩:=hV;have hh:Below w.heap.size w W1:=hG;rw[hu];clear hu hG;go_upto_region 2 with (fail)
 go_loopw [36] (fun i wr => ∃(k:Nat),k≤5∧i = .int .i64 k∧Below w.heap.size w wr∧aB wr ge #[.int .i64 (bL H.m),.int .i64 (dn H.sl),.int .i64 (aY H.sw),.int .i64 (aY H.dk),.int .i64 (aO (bY H.fi H.ct))] 43∧Hid (∀j,j<k→(Hu H.ma).getD j 0=0)) (fun i _=>5-(intOf i).toNat)
 case atStart=>exact⟨0,aV _,rfl,hh,hW,Lib.hid fun j hj=>absurd hj (dV _)⟩
 case round=>
  clear hh hW;obtain⟨k,hk,rfl,d,hx,hz⟩:=hrel
  by_cases hkl:k<5
  ·have hM:(k:Int)<5:=by omega
   have kb:wr.cell? ⟨ge,k,none⟩=some (.int .i64 ((Hu H.ma).getD k 0)):=by
    rw[hx.cell]
    match k,hkl with
    | 0,_=>rfl
    | 1,_=>rfl
    | 2,_=>rfl
    | 3,_=>rfl
    | 4,_=>rfl
    | n+5,h'=>omega
   by_cases h0:(Hu H.ma).getD k 0=0
   ·have hm:Hid (∀j,j<k+1→(Hu H.ma).getD j 0=0):=Lib.hid fun j hj=>by
     by_cases e:j=k
     ·rw[e];exact h0
     ·exact hz.out j (by omega)
    rw[h0] at kb;clear h0 hz;go_wp2;go_roundw
    case rel=>exact⟨k+1,by omega,by go_num,d,hx,hm⟩
    case measure=>simp[intOf];omega
   have hq:Hid (ic H.ma=(Hu H.ma).getD k 0):=Lib.hid (Qe hkl hz.out h0);generalize (Hu H.ma).getD k 0=E at *
   clear hz;go_wp2;go_ret;rw[hq.out];exact⟨rfl,d⟩
  have hM:¬(k:Int)<5:=by omega
  have hU:=hz.out 0 (by omega);have hT:=hz.out 1 (by omega);have hm:=hz.out 2 (by omega);have hS:=hz.out 3 (by omega);have hR:=hz.out 4 (by omega);have e0:=Lib.hid (show bL H.m=0 from hU);have e1:=Lib.hid (show dn H.sl=0 from hT);have e2:=Lib.hid (show aY H.sw=0 from hm);have e3:=Lib.hid (show aY H.dk=0 from hS);have e4:=Lib.hid (show aO (bY H.fi H.ct)=0 from hR);clear hU hT hm hS hR hz hx;have a:=hbk.ext d;have hr:=h.below d;have hP:Hid (ic H.ma=if H.sw.blocks.length≠H.sl.length∨(H.dk.blocks.length:Int)≠H.ct∨trimB H.ma=false then 7 else if 4<H.sp.length then 4 else firstE (H.ma.sp.map jB)):=Lib.hid (by unfold ic;rw[if_neg (by rw[show bL H.ma.m=0 from e0.out];simp),if_neg (by rw[show dn H.ma.sl=0 from e1.out];simp),if_neg (by rw[show aY H.ma.sw=0 from e2.out];simp),if_neg (by rw[show aY H.ma.dk=0 from e3.out];simp),if_neg (by rw[show aO H.ma.st=0 from e4.out];simp),ER];rfl);go_upto_region 7 with (fail);have hf:=a.cell;unfold dh at hf
  by_cases c1:H.sw.blocks.length=H.sl.length
  ·by_cases c2:(H.dk.blocks.length:Int)=H.ct
   ·have c1i:(H.sw.blocks.length:Int)=(H.sl.length:Int):=by omega
    have hL:Hid (ic H.ma=if trimB H.ma=false then 7 else if 4<H.sp.length then 4 else firstE (H.ma.sp.map jB)):=Lib.hid (by
     rw[hP.out]
     by_cases ct:trimB H.ma=false
     ·rw[if_pos (.inr (.inr ct)),if_pos ct]
     ·rw[if_neg (by rintro (h | h | h);exact h c1;exact h c2;exact ct h),if_neg ct])
    refine aM 31 [_,_,_,_,_,_,_,_,_,_,_,_,_,_,_,_,_,_,_,_,_,_,_,_,_,_,_,_,.v (.bool (trimB H.ma)),_,.v (.bool (!trimB H.ma))] (Gk rfl (Gk rfl (Gf b 3 rfl rfl (Gf b 3 rfl rfl (Gl a rfl rfl rfl rfl rfl (Gn rfl rfl rfl rfl (Gk rfl (Gk rfl (Gf b 2 rfl rfl (Gl a rfl rfl rfl rfl rfl (Gn rfl rfl rfl rfl (Gb (.bool false) (by simp[go_sem,c1]) rfl rfl rfl rfl rfl (Gk rfl (Gk rfl (Gk rfl (Gf b 5 rfl rfl (Gf b 5 rfl rfl (Gl a rfl rfl rfl rfl rfl (Gn rfl rfl rfl rfl (Gk rfl (Gk rfl (Gf b 7 rfl rfl (Gf b 8 rfl rfl (Gl a rfl rfl rfl rfl rfl (Gb (.bool false) (by simp[go_sem,c2]) rfl rfl rfl rfl rfl (Gk rfl (Gk rfl (Gk rfl (ag ?_ (Gr (.bool (!trimB H.ma)) (fun ρ y W hb g=>CW rfl (aF rfl g)) rfl rfl (Gk rfl (aC)))))))))))))))))))))))))))))))) (fun _=>rfl) rfl ?_
    ·intro ρ y W hw hn hb hd;have kl:=hw 71 27 rfl;have kd:y 27=_:=hd 27 rfl;have EF:∀f,ρ (.func f) = .func (.func f) #[] #[]:=fun f=>hn (.func f) trivial;refine aR _ _ (bu 26 70 false false rfl rfl ((hw 70 26 rfl).trans (hd 26 rfl))) (aU rfl (EF _) func110 (by kernel_rfl) (by kernel_rfl) (by simp only[bV,bP,bT,kl,kd,EF];rfl)) ?_;refine (Ko H b W (a.ext hb) (hr.below hb) e4.out e3.out).mono ?_;rintro r w1 ⟨rfl,p⟩;exact⟨_,rfl,p,rfl⟩
    intro y W2 l _;have c:=ae d l;clear l;cases ht:trimB H.ma with
    | false=>
     have ha:Hid (ic H.ma=7):=Lib.hid (by rw[hL.out,if_pos ht]);clear c1 c2 c1i;go_wp2;go_ret;rw[ha.out];exact⟨rfl,c⟩
    | true=>
     have hK:Hid (ic H.ma=if 4<H.sp.length then 4 else firstE (H.ma.sp.map jB)):=Lib.hid (by rw[hL.out,if_neg (by rw[ht];decide)]);clear c1 c2 c1i hf ht;have h6:=h.below c;have hf:=(hbk.ext c).cell;unfold dh at hf;clear hr a hP hL d
     by_cases c4:4<H.sp.length
     ·have hs:Hid (ic H.ma=4):=Lib.hid (by rw[hK.out,if_pos c4]);have c4i:(4:Int)<(H.sp.length:Int):=by omega
      clear c4;go_wp2;go_ret;rw[hs.out];exact⟨rfl,c⟩
     have hs:Hid (ic H.ma=firstE (H.ma.sp.map jB)):=Lib.hid (by rw[hK.out,if_neg c4]);have c4i:¬(4:Int)<(H.sp.length:Int):=by omega
     have hC:Hid ((H.ma.sp.map jB).length=H.sp.length):=Lib.hid (by rw[fo,ER]);clear c4 hK;go_upto_region 12 with (fail);clear hf h6
     go_loopw [86] (fun i wr => ∃(k:Nat),k≤H.sp.length∧i = .int .i64 k∧Below w.heap.size w wr∧Hid (∀j (hj:j<(H.ma.sp.map jB).length),j<k→(H.ma.sp.map jB)[j]=0)) (fun i _=>H.sp.length-(intOf i).toNat)
     case atStart=>exact⟨0,aV _,rfl,c,Lib.hid fun j _ hj=>absurd hj (dV _)⟩
     case round=>
      clear c;obtain⟨k,hk,rfl,d,hz⟩:=hrel
      by_cases hkl:k<H.sp.length
      ·obtain⟨bs,os,P,kc,hP,hX⟩:=zy (h.below d).sp.rd k hkl;have t:=xE (h.below d) hP;have hM:(k:Int)<(H.sp.length:Int):=by omega
       have hZ:k<(H.ma.sp.map jB).length:=by rw[hC.out];exact hkl
       have hE:Hid ((H.ma.sp.map jB)[k]=jB P.sp):=Lib.hid (by
        rw[uS];congr 1;have:H.ma.sp[k]?=some P.sp:=by show (H.sp.map PS.sp)[k]?=_;rw[jO,hP];rfl
        exact (cK.1 this).2)
       have hc:Hid (jB P.sp≠0→ic H.ma=jB P.sp):=Lib.hid fun h7=>by rw[hs.out,xu k hZ hz.out (by rw[hE.out];exact h7),hE.out]
       have hY:Hid (jB P.sp=0→∀j (hj:j<(H.ma.sp.map jB).length),j<k+1→(H.ma.sp.map jB)[j]=0):=Lib.hid fun h0 j hj kz=>by
        by_cases e:j=k
        ·subst e;rw[hE.out];exact h0
        ·exact hz.out j hj (by omega)
       have o:Hid (jB P.sp=if (bI P.ar).1≠0 then (bI P.ar).1 else if cB P.tb≠0 then cB P.tb else if P.lv=false∧0<P.ar.length+(aP P.tb).length then 7 else 0):=Lib.hid rfl;rw[kc];clear hz hP hE hZ;have hB:(vT P).all (·.oneCell')=true:=by rw[←jV,dK];exact t.one
       go_wp2_with (first | (refine ax _ _ rfl bs (os+k*10) rfl rfl _ hX _ underlying55 rfl space_size ?_) | (refine aI rfl _ _ _ rfl (vT P) rfl rfl rfl space_size hB ?_))
       intro w3 hQ fx3;have hF:=ae d hQ;have hN:=t.below hQ;have ka:=fx3.lt;generalize wr.heap.size=gs at fx3 ka ⊢;clear d hQ hX t hB;have h1:=fx3.cell;unfold vT at h1;have hA:=hN.ars
       go_wp2_with fail
       refine (Mc P.ar P.aa P.ac _ hA.rd (by have:=hA.le;have:=hA.mx;unfold maxLen at this;omega)).mono ?_;rintro r w3' ⟨rfl,z⟩;have fx3':=fx3.ext z;have hg:=ae hF z;have hD:=hN.below z;clear h1 fx3 hF hN z hA
       go_wp2_with (refine aI rfl _ _ _ rfl (Kr (bI P.ar)) rfl rfl rfl fau_size (by simp[Kr,Value.oneCell']) ?_)
       intro w4 hy ux;have fx:=fx3'.ext hy;have q:=ae hg hy;have u:=hD.below hy;clear fx3' hg hD hy;have hO:=ux.cell;unfold Kr at hO
       by_cases c5:(bI P.ar).1=0
       ·rw[if_neg (by rw[c5];simp)] at o;rw[c5] at hO;have kA:=(Bn c5).1;have ky:(aP P.tb).length≤64:=qO P.tb 64;have hp:IntKind.i64.wrap ((P.ar.length:Int)+((aP P.tb).length:Int))=(P.ar.length:Int)+((aP P.tb).length:Int):=bM _ (by omega);go_upto_region 17 with (fail);clear hO ux c5
        go_wp2_with (refine ax _ _ rfl gs 2 rfl rfl _ (bJ fx 2 8) _ underlying53 tab_agg tab_size ?_)
        refine (DY P.tb (nP P.ts) _ u.tb).mono ?_;rintro r w6 ⟨rfl,hv⟩;replace fx:=fx.ext hv;replace q:=ae q hv;replace u:=u.below hv;clear hv
        by_cases c6:cB P.tb=0
        ·rw[if_neg (by rw[c6];simp)] at o;rw[c6];go_upto_region 20 with (fail);cases hlv:P.lv with
         | true=>
          have hJ:Hid (jB P.sp=0):=Lib.hid (by rw[o.out,if_neg (by rw[hlv];simp)]);refine aM 14 [_,_,_,_,_,_,_,_,_,_,_,_,_,.v (.bool false)] (Gf gs 0 rfl rfl (Gl fx (V:=.bool true) (by simp[vT,hlv]) rfl rfl rfl rfl (Gk rfl (Gk rfl (Gk rfl (Gk rfl (Gk rfl (Gk rfl (Gk rfl (Gk rfl (Gk rfl (Gk rfl (Gk rfl (Gk rfl (aC))))))))))))))) (fun _=>rfl) rfl ?_;intro y W5 s _;have x:=ae q s;clear s;have hl:=Lib.hid (hY.out hJ.out);clear hp fx u;go_wp2;go_roundw
          case rel=>exact⟨k+1,by omega,by go_num,x,hl⟩
          case measure=>simp[intOf];omega
         | false=>
          refine aM 14 [_,_,_,_,_,_,_,_,_,.r 9 ((ou w6.heap.size 3 1 (aP P.tb).length ((aP P.tb).map fT))),.v (.int .i64 (aP P.tb).length),_,_,.v (.bool (decide (0<(P.ar.length:Int)+((aP P.tb).length:Int))))] (Gf gs 0 rfl rfl (Gl fx (V:=.bool false) (by simp[vT,hlv]) rfl rfl rfl rfl (Gk rfl (Gk rfl (Gf gs 1 rfl rfl (Gl fx rfl rfl rfl rfl rfl (Gn rfl rfl rfl rfl (Gf gs 2 rfl rfl (Gr (.agg (nP P.ts)) (fun ρ y W hb g=>(bC rfl (aF rfl g) (bJ (fx.ext hb) 2 8) underlying53 tab_agg tab_size)) rfl rfl (ag ?_ (ag ?_ (Gb (.int .i64 ((P.ar.length:Int)+((aP P.tb).length:Int))) (by simp[go_sem,hp]) rfl rfl rfl rfl rfl (Gb (.bool (decide (0<(P.ar.length:Int)+((aP P.tb).length:Int)))) (by simp[go_sem]) rfl rfl rfl rfl rfl (Gk rfl (aC))))))))))))))) (fun _=>rfl) rfl ?_
          ·intro ρ y W hw hn hb hd;have h5:=hw 112 8 rfl;have h8:y 8=_:=hd 8 rfl;have EF:∀f,ρ (.func f) = .func (.func f) #[] #[]:=fun f=>hn (.func f) trivial;refine aR _ _ (bu 3 107 true true rfl rfl ((hw 107 3 rfl).trans (hd 3 rfl))) (aU rfl (EF _) func42 (by kernel_rfl) (by kernel_rfl) (by simp only[bV,bP,bT,h5,h8,EF];rfl)) ?_;refine (yx P.tb (nP P.ts) W (u.below hb).tb).mono ?_;rintro r w1 ⟨v,rfl,ho,p⟩;exact⟨_,rfl,p,ho.mono hb.size⟩
          ·intro ρ y W hw hn hb hd;have h2:=hw 113 9 rfl;have h9:=hd 9 rfl;obtain⟨a9,c9,e9,_⟩:=Own.rd h9;refine aj (.int .i64 (aP P.tb).length) (bu 3 107 true true rfl rfl ((hw 107 3 rfl).trans (hd 3 rfl))) (Kk rfl (h2.trans e9) rfl) rfl
          intro y W5 s hH;have kx:((ou w6.heap.size 3 1 (aP P.tb).length ((aP P.tb).map fT))).r (y 9) W5:=hH 9 (by decide);clear hH;have x:=ae q s;clear s
          by_cases c7:0<P.ar.length+(aP P.tb).length
          ·have hq:Hid (ic H.ma=7):=Lib.hid (by rw[hc.out (by rw[o.out,if_pos ⟨hlv,c7⟩];decide),o.out,if_pos ⟨hlv,c7⟩]);have hd:decide (0<(P.ar.length:Int)+((aP P.tb).length:Int))=true:=decide_eq_true (by omega);rw[hd];clear hp fx u hd c7;go_wp2;go_ret;rw[hq.out];exact⟨rfl,x⟩
          have hJ:Hid (jB P.sp=0):=Lib.hid (by rw[o.out,if_neg (fun h'=>c7 h'.2)]);have hl:=Lib.hid (hY.out hJ.out);have hd:decide (0<(P.ar.length:Int)+((aP P.tb).length:Int))=false:=decide_eq_false (by omega);rw[hd];clear hp fx u hd c7;go_wp2;go_roundw
          case rel=>exact⟨k+1,by omega,by go_num,x,hl⟩
          case measure=>simp[intOf];omega
        rw[if_pos c6] at o;have hq:Hid (ic H.ma=cB P.tb):=Lib.hid (by rw[hc.out (by rw[o.out];exact c6),o.out]);generalize cB P.tb=E at *
        go_wp2;go_ret;rw[hq.out];exact⟨rfl,q⟩
       rw[if_pos c5] at o;have hq:Hid (ic H.ma=(bI P.ar).1):=Lib.hid (by rw[hc.out (by rw[o.out];exact c5),o.out]);generalize (bI P.ar).1=E at *
       go_wp2;go_ret;rw[hq.out];exact⟨rfl,q⟩
      have hM:¬(k:Int)<(H.sp.length:Int):=by omega
      have hq:Hid (ic H.ma=0):=Lib.hid (by rw[hs.out,sK fun i hi=>hz.out i hi (by rw[hC.out] at hi;omega)]);clear hz;go_wp2;go_ret;rw[hq.out];exact⟨rfl,d⟩
   have ha:Hid (ic H.ma=7):=Lib.hid (by rw[hP.out,if_pos (.inr (.inl c2))]);refine aM 31 [_,_,_,_,_,_,_,_,_,_,_,_,_,_,_,_,_,_,_,_,_,_,_,_,_,_,_,_,_,_,.v (.bool true)] (Gk rfl (Gk rfl (Gf b 3 rfl rfl (Gf b 3 rfl rfl (Gl a rfl rfl rfl rfl rfl (Gn rfl rfl rfl rfl (Gk rfl (Gk rfl (Gf b 2 rfl rfl (Gl a rfl rfl rfl rfl rfl (Gn rfl rfl rfl rfl (Gb (.bool false) (by simp[go_sem,c1]) rfl rfl rfl rfl rfl (Gk rfl (Gk rfl (Gk rfl (Gf b 5 rfl rfl (Gf b 5 rfl rfl (Gl a rfl rfl rfl rfl rfl (Gn rfl rfl rfl rfl (Gk rfl (Gk rfl (Gf b 7 rfl rfl (Gf b 8 rfl rfl (Gl a rfl rfl rfl rfl rfl (Gb (.bool true) (by simp[go_sem,c2]) rfl rfl rfl rfl rfl (Gk rfl (Gk rfl (Gk rfl (Gk rfl (Gk rfl (Gk rfl (aC)))))))))))))))))))))))))))))))) (fun _=>rfl) rfl ?_;intro y W2 l _;have c:=ae d l;clear l;clear c1 c2;go_wp2;go_ret;rw[ha.out];exact⟨rfl,c⟩
  have ha:Hid (ic H.ma=7):=Lib.hid (by rw[hP.out,if_pos (.inl c1)]);have c1i:¬((H.sw.blocks.length:Int)=(H.sl.length:Int)):=by omega
  have c2:=c1;refine aM 31 [_,_,_,_,_,_,_,_,_,_,_,_,_,_,_,_,_,_,_,_,_,_,_,_,_,_,_,_,_,_,.v (.bool true)] (Gk rfl (Gk rfl (Gf b 3 rfl rfl (Gf b 3 rfl rfl (Gl a rfl rfl rfl rfl rfl (Gn rfl rfl rfl rfl (Gk rfl (Gk rfl (Gf b 2 rfl rfl (Gl a rfl rfl rfl rfl rfl (Gn rfl rfl rfl rfl (Gb (.bool true) (by simp[go_sem,c1i]) rfl rfl rfl rfl rfl (Gk rfl (Gk rfl (Gk rfl (Gk rfl (Gk rfl (Gk rfl (Gk rfl (Gk rfl (Gk rfl (Gk rfl (Gk rfl (Gk rfl (Gk rfl (Gk rfl (Gk rfl (Gk rfl (Gk rfl (Gk rfl (Gk rfl (aC)))))))))))))))))))))))))))))))) (fun _=>rfl) rfl ?_;intro y W2 l _;have c:=ae d l;clear l;clear c1 c1i c2;go_wp2;go_ret;rw[ha.out];exact⟨rfl,c⟩
theorem uz {p:Option Cc} {c:Cc} (h:c.f<0∨(m.st.fs.length:Int)≤c.f∨c.i<0∨((aK m.st c.f).b.length:Int)≤c.i∨c.k<0∨(m.m.fs.length:Int)≤c.k):sU m p c=3:=by
 unfold sU;rw[if_pos h]
theorem Md (H:MH) (b:Nat) (w:World) (hbk:aB w b (dh H) 41) (h:BR w H) :
  Calls Tryz.prog 67 #[.pointer (some ⟨b,0,none⟩)] w fun r w'=>r = .returned (.int .i64 (cachedE H.ma))∧Below w.heap.size w w':=by
 have ku:=h.ca.le;have kp:=h.ca.mx;unfold maxLen at kp;go_enter func67,ntmps67;have kf:=hbk.cell;unfold dh at kf;obtain⟨L,hL⟩:∃L,L=(List.range H.ca.length).map fun k=>sU H.ma (xX H.ca k) (H.ca.getD k zCc):=⟨_,rfl⟩;have kl:Hid (L.length=H.ca.length):=Lib.hid (by rw[hL];simp);have km:Hid (cachedE H.ma=firstE L):=Lib.hid (by rw[hL];rfl);have ks:Hid (∀k (hk:k<L.length),L[k]=sU H.ma (xX H.ca k) (H.ca.getD k zCc)):=Lib.hid fun k hk=>by simp[hL]
 clear hL;go_upto_region 2 with (fail);clear kf
 go_loopw [11] (fun i wr => ∃(k:Nat),k≤H.ca.length∧i = .int .i64 k∧Below w.heap.size w wr∧Hid (∀j (hj:j<L.length),j<k→L[j]=0)) (fun i _=>H.ca.length-(intOf i).toNat)
 case atStart=>exact⟨0,aV _,rfl,Below.refl _ _,Lib.hid fun j _ hj=>absurd hj (dV _)⟩
 case round=>
  obtain⟨k,hk,rfl,hN,hz⟩:=hrel
  by_cases hkl:k<H.ca.length
  ·obtain⟨bc,oc,hv,h4⟩:=jX pE (by decide) (h.below hN).ca.rd k hkl;have kq:(k:Int)<(H.ca.length:Int):=by omega
   have hX:k<L.length:=by rw[kl.out];exact hkl
   have hE:Hid (L[k]=sU H.ma (xX H.ca k) H.ca[k]):=Lib.hid (by rw[ks.out k hX,aS,aH hkl];rfl);have ha:Hid (L[k]≠0→cachedE H.ma=L[k]):=Lib.hid fun ko=>by rw[km.out,xu k hX hz.out ko]
   have hW:Hid (L[k]=0→∀j (hj:j<L.length),j<k+1→L[j]=0):=Lib.hid fun h0 j hj kv=>by
    by_cases e:j=k
    ·subst e;exact h0
    ·exact hz.out j hj (by omega)
   generalize hLk:L[k]=Lk at *
   have h6:Hid (xX H.ca k=if k=0 then none else H.ca[k-1]?):=Lib.hid rfl;generalize hc:H.ca[k]=c at *
   rw[hv];clear hz hX hLk hc
   go_wp2_with (first | (refine ax _ _ rfl bc (oc+k*3) rfl rfl _ h4 _ underlying106 rfl cached_size ?_) | (refine aI rfl _ _ _ rfl (Ao c) rfl rfl rfl cached_size (vL c) ?_))
   intro w3 kj cx;have ht:=ae hN kj;have z:=hbk.ext ht;have hV:=h.below ht;generalize wr.heap.size=gc at cx ⊢;clear kj h4 hN;go_upto_region 4 with (fail);obtain⟨bf,of,F,P,hl,hg,hu,hr⟩:∃(bf of F:Nat) (P:PF),(0≤c.f→c.f<H.fi.length→H.ai=some ⟨bf,of,none⟩)∧(0≤c.f→c.f<H.fi.length→F<H.fi.length)∧(0≤c.f→c.f<H.fi.length→c.f=(F:Int)∧aK H.ma.st c.f=P.fi)∧(0≤c.f→c.f<H.fi.length→∀W,Below w3.heap.size w3 W→W.cell? ⟨bf,of+F*2+1,none⟩=some (.slice P.a P.l.length P.c)):=by
    by_cases hc0:0≤c.f∧c.f<H.fi.length
    ·have hg:c.f.toNat<H.fi.length:=by omega
     obtain⟨bf,of,P,hl,hP,kw,hr⟩:=DJ hV.st.rd c.f.toNat hg;refine⟨bf,of,c.f.toNat,P,fun _ _=>hl,fun _ _=>hg,fun _ _=>⟨by omega,?_⟩,fun _ _ W hb => ?_⟩
     ·have:(H.fi.map PF.fi)[c.f.toNat]?=some P.fi:=by rw[jO,hP];rfl
      have h2:=oz (s:=H.ma.st) (F:=c.f.toNat) this;rw[←h2];congr 1;omega
     obtain⟨bf',of',P',hS,kk,kt,kd⟩:=DJ (hV.below hb).st.rd c.f.toNat hg;rw[hP] at kk;cases kk;rw[hl] at hS;cases hS;exact kd
    ·exact⟨0,0,0,⟨0,none,[],0⟩,fun h1 h2=>absurd ⟨h1,h2⟩ hc0,fun h1 h2=>absurd ⟨h1,h2⟩ hc0,fun h1 h2=>absurd ⟨h1,h2⟩ hc0,fun h1 h2=>absurd ⟨h1,h2⟩ hc0⟩
   by_cases c1:c.f<0
   ·have t:Hid (c.f<0∨(H.ma.st.fs.length:Int)≤c.f∨c.i<0∨((aK H.ma.st c.f).b.length:Int)≤c.i∨c.k<0∨(H.ma.m.fs.length:Int)≤c.k):=Lib.hid (.inl c1);refine aM 51 [_,_,_,_,_,_,_,_,_,_,_,_,_,_,_,_,_,_,_,_,_,_,_,_,_,_,_,_,_,_,_,_,_,_,_,_,_,_,_,_,_,_,_,_,_,_,_,_,_,_,.v (.bool true)] (Gf gc 0 rfl rfl (Gl cx rfl rfl rfl rfl rfl (Gb (.bool true) (by simp[go_sem,c1]) rfl rfl rfl rfl rfl (Gk rfl (Gk rfl (Gk rfl (Gk rfl (Gk rfl (Gk rfl (Gk rfl (Gk rfl (Gk rfl (Gk rfl (Gk rfl (Gk rfl (Gk rfl (Gk rfl (Gk rfl (Gk rfl (Gk rfl (Gk rfl (Gk rfl (Gk rfl (Gk rfl (Gk rfl (Gk rfl (Gk rfl (Gk rfl (Gk rfl (Gk rfl (Gk rfl (Gk rfl (Gk rfl (Gk rfl (Gk rfl (Gk rfl (Gk rfl (Gk rfl (Gk rfl (Gk rfl (Gk rfl (Gk rfl (Gk rfl (Gk rfl (Gk rfl (Gk rfl (Gk rfl (Gk rfl (Gk rfl (Gk rfl (Gk rfl (aC)))))))))))))))))))))))))))))))))))))))))))))))))))) (fun _=>rfl) rfl ?_;intro y W4 g _;have p:=ae ht g;replace cx:=cx.ext g;clear g;have hf:Hid (Lk=3):=Lib.hid (by rw[hE.out];exact uz t.out);have hq:Hid (cachedE H.ma=3):=Lib.hid (by rw[ha.out (by rw[hf.out];decide),hf.out]);clear hl hg hu hr;go_wp2;go_ret;rw[hq.out];exact⟨rfl,p⟩
   have hY:Hid (H.ma.st.fs.length=H.fi.length):=Lib.hid (fo _)
   by_cases c2:(H.fi.length:Int)≤c.f
   ·have t:Hid (c.f<0∨(H.ma.st.fs.length:Int)≤c.f∨c.i<0∨((aK H.ma.st c.f).b.length:Int)≤c.i∨c.k<0∨(H.ma.m.fs.length:Int)≤c.k):=Lib.hid (.inr (.inl (by rw[hY.out];exact c2)));refine aM 51 [_,_,_,_,_,_,_,_,_,_,_,_,_,_,_,_,_,_,_,_,_,_,_,_,_,_,_,_,_,_,_,_,_,_,_,_,_,_,_,_,_,_,_,_,_,_,_,_,_,_,.v (.bool true)] (Gf gc 0 rfl rfl (Gl cx rfl rfl rfl rfl rfl (Gb (.bool false) (by simp[go_sem,c1]) rfl rfl rfl rfl rfl (Gk rfl (Gf gc 0 rfl rfl (Gl cx rfl rfl rfl rfl rfl (Gk rfl (Gk rfl (Gf b 7 rfl rfl (Gf b 7 rfl rfl (Gl z rfl rfl rfl rfl rfl (Gn rfl rfl rfl rfl (Gb (.bool true) (by simp[go_sem,c2]) rfl rfl rfl rfl rfl (Gk rfl (Gk rfl (Gk rfl (Gk rfl (Gk rfl (Gk rfl (Gk rfl (Gk rfl (Gk rfl (Gk rfl (Gk rfl (Gk rfl (Gk rfl (Gk rfl (Gk rfl (Gk rfl (Gk rfl (Gk rfl (Gk rfl (Gk rfl (Gk rfl (Gk rfl (Gk rfl (Gk rfl (Gk rfl (Gk rfl (Gk rfl (Gk rfl (Gk rfl (Gk rfl (Gk rfl (Gk rfl (Gk rfl (Gk rfl (Gk rfl (Gk rfl (Gk rfl (Gk rfl (aC)))))))))))))))))))))))))))))))))))))))))))))))))))) (fun _=>rfl) rfl ?_;intro y W4 g _;have p:=ae ht g;replace cx:=cx.ext g;clear g;have hf:Hid (Lk=3):=Lib.hid (by rw[hE.out];exact uz t.out);have hq:Hid (cachedE H.ma=3):=Lib.hid (by rw[ha.out (by rw[hf.out];decide),hf.out]);clear hl hg hu hr;go_wp2;go_ret;rw[hq.out];exact⟨rfl,p⟩
   replace hl:=hl (by omega) (by omega);replace hg:=hg (by omega) (by omega);obtain⟨hu,kb⟩:=hu (by omega) (by omega);replace hr:=hr (by omega) (by omega);have hG:=Lib.hid kb;clear kb
   by_cases c3:c.i<0
   ·have t:Hid (c.f<0∨(H.ma.st.fs.length:Int)≤c.f∨c.i<0∨((aK H.ma.st c.f).b.length:Int)≤c.i∨c.k<0∨(H.ma.m.fs.length:Int)≤c.k):=Lib.hid (.inr (.inr (.inl c3)));refine aM 51 [_,_,_,_,_,_,_,_,_,_,_,_,_,_,_,_,_,_,_,_,_,_,_,_,_,_,_,_,_,_,_,_,_,_,_,_,_,_,_,_,_,_,_,_,_,_,_,_,_,_,.v (.bool true)] (Gf gc 0 rfl rfl (Gl cx rfl rfl rfl rfl rfl (Gb (.bool false) (by simp[go_sem,c1]) rfl rfl rfl rfl rfl (Gk rfl (Gf gc 0 rfl rfl (Gl cx rfl rfl rfl rfl rfl (Gk rfl (Gk rfl (Gf b 7 rfl rfl (Gf b 7 rfl rfl (Gl z rfl rfl rfl rfl rfl (Gn rfl rfl rfl rfl (Gb (.bool false) (by simp[go_sem,c2]) rfl rfl rfl rfl rfl (Gk rfl (Gk rfl (Gf gc 1 rfl rfl (Gl cx rfl rfl rfl rfl rfl (Gb (.bool true) (by simp[go_sem,c3]) rfl rfl rfl rfl rfl (Gk rfl (Gk rfl (Gk rfl (Gk rfl (Gk rfl (Gk rfl (Gk rfl (Gk rfl (Gk rfl (Gk rfl (Gk rfl (Gk rfl (Gk rfl (Gk rfl (Gk rfl (Gk rfl (Gk rfl (Gk rfl (Gk rfl (Gk rfl (Gk rfl (Gk rfl (Gk rfl (Gk rfl (Gk rfl (Gk rfl (Gk rfl (Gk rfl (Gk rfl (Gk rfl (Gk rfl (Gk rfl (Gk rfl (aC)))))))))))))))))))))))))))))))))))))))))))))))))))) (fun _=>rfl) rfl ?_;intro y W4 g _;have p:=ae ht g;replace cx:=cx.ext g;clear g;have hf:Hid (Lk=3):=Lib.hid (by rw[hE.out];exact uz t.out);have hq:Hid (cachedE H.ma=3):=Lib.hid (by rw[ha.out (by rw[hf.out];decide),hf.out]);clear hl hg hu hr;go_wp2;go_ret;rw[hq.out];exact⟨rfl,p⟩
   by_cases c4:(P.l.length:Int)≤c.i
   ·have t:Hid (c.f<0∨(H.ma.st.fs.length:Int)≤c.f∨c.i<0∨((aK H.ma.st c.f).b.length:Int)≤c.i∨c.k<0∨(H.ma.m.fs.length:Int)≤c.k):=Lib.hid (.inr (.inr (.inr (.inl (by rw[hG.out];exact c4)))));refine aM 51 [_,_,_,_,_,_,_,_,_,_,_,_,_,_,_,_,_,_,_,_,_,_,_,_,_,_,_,_,_,_,_,_,_,_,_,_,_,_,_,_,_,_,_,_,_,_,_,_,_,_,.v (.bool true)] (Gf gc 0 rfl rfl (Gl cx rfl rfl rfl rfl rfl (Gb (.bool false) (by simp[go_sem,c1]) rfl rfl rfl rfl rfl (Gk rfl (Gf gc 0 rfl rfl (Gl cx rfl rfl rfl rfl rfl (Gk rfl (Gk rfl (Gf b 7 rfl rfl (Gf b 7 rfl rfl (Gl z rfl rfl rfl rfl rfl (Gn rfl rfl rfl rfl (Gb (.bool false) (by simp[go_sem,c2]) rfl rfl rfl rfl rfl (Gk rfl (Gk rfl (Gf gc 1 rfl rfl (Gl cx rfl rfl rfl rfl rfl (Gb (.bool false) (by simp[go_sem,c3]) rfl rfl rfl rfl rfl (Gk rfl (Gk rfl (Gf gc 1 rfl rfl (Gl cx rfl rfl rfl rfl rfl (Gk rfl (Gk rfl (Gf b 7 rfl rfl (Gf b 7 rfl rfl (Gl z (V:=.slice (some ⟨bf,of,none⟩) H.fi.length H.ci) (by simp[dh,hl]) rfl rfl rfl rfl (Gf gc 0 rfl rfl (Gl cx (V:=.int .i64 (F:Int)) (by simp[Ao,hu]) rfl rfl rfl rfl (Gr (.pointer (some ⟨bf,of+F*2,none⟩)) (fun ρ y W hb d=>(bF rfl (aF rfl d) (aF rfl d) hg underlying35 file_size)) rfl rfl (Gf bf (of+F*2+1) rfl rfl (Gc (.slice P.a P.l.length P.c) (fun W hb=>by simp[hr _ hb]) rfl rfl rfl rfl (Gn rfl rfl rfl rfl (Gb (.bool true) (by simp[go_sem,c4]) rfl rfl rfl rfl rfl (Gk rfl (Gk rfl (Gk rfl (Gk rfl (Gk rfl (Gk rfl (Gk rfl (Gk rfl (Gk rfl (Gk rfl (Gk rfl (Gk rfl (Gk rfl (Gk rfl (Gk rfl (Gk rfl (Gk rfl (aC)))))))))))))))))))))))))))))))))))))))))))))))))))) (fun _=>rfl) rfl ?_;intro y W4 g _;have p:=ae ht g;replace cx:=cx.ext g;clear g;have hf:Hid (Lk=3):=Lib.hid (by rw[hE.out];exact uz t.out);have hq:Hid (cachedE H.ma=3):=Lib.hid (by rw[ha.out (by rw[hf.out];decide),hf.out]);clear hl hg hu hr;go_wp2;go_ret;rw[hq.out];exact⟨rfl,p⟩
   by_cases c5:c.k<0
   ·have t:Hid (c.f<0∨(H.ma.st.fs.length:Int)≤c.f∨c.i<0∨((aK H.ma.st c.f).b.length:Int)≤c.i∨c.k<0∨(H.ma.m.fs.length:Int)≤c.k):=Lib.hid (.inr (.inr (.inr (.inr (.inl c5)))));refine aM 51 [_,_,_,_,_,_,_,_,_,_,_,_,_,_,_,_,_,_,_,_,_,_,_,_,_,_,_,_,_,_,_,_,_,_,_,_,_,_,_,_,_,_,_,_,_,_,_,_,_,_,.v (.bool true)] (Gf gc 0 rfl rfl (Gl cx rfl rfl rfl rfl rfl (Gb (.bool false) (by simp[go_sem,c1]) rfl rfl rfl rfl rfl (Gk rfl (Gf gc 0 rfl rfl (Gl cx rfl rfl rfl rfl rfl (Gk rfl (Gk rfl (Gf b 7 rfl rfl (Gf b 7 rfl rfl (Gl z rfl rfl rfl rfl rfl (Gn rfl rfl rfl rfl (Gb (.bool false) (by simp[go_sem,c2]) rfl rfl rfl rfl rfl (Gk rfl (Gk rfl (Gf gc 1 rfl rfl (Gl cx rfl rfl rfl rfl rfl (Gb (.bool false) (by simp[go_sem,c3]) rfl rfl rfl rfl rfl (Gk rfl (Gk rfl (Gf gc 1 rfl rfl (Gl cx rfl rfl rfl rfl rfl (Gk rfl (Gk rfl (Gf b 7 rfl rfl (Gf b 7 rfl rfl (Gl z (V:=.slice (some ⟨bf,of,none⟩) H.fi.length H.ci) (by simp[dh,hl]) rfl rfl rfl rfl (Gf gc 0 rfl rfl (Gl cx (V:=.int .i64 (F:Int)) (by simp[Ao,hu]) rfl rfl rfl rfl (Gr (.pointer (some ⟨bf,of+F*2,none⟩)) (fun ρ y W hb d=>(bF rfl (aF rfl d) (aF rfl d) hg underlying35 file_size)) rfl rfl (Gf bf (of+F*2+1) rfl rfl (Gc (.slice P.a P.l.length P.c) (fun W hb=>by simp[hr _ hb]) rfl rfl rfl rfl (Gn rfl rfl rfl rfl (Gb (.bool false) (by simp[go_sem,c4]) rfl rfl rfl rfl rfl (Gk rfl (Gk rfl (Gf gc 2 rfl rfl (Gl cx rfl rfl rfl rfl rfl (Gb (.bool true) (by simp[go_sem,c5]) rfl rfl rfl rfl rfl (Gk rfl (Gk rfl (Gk rfl (Gk rfl (Gk rfl (Gk rfl (Gk rfl (Gk rfl (Gk rfl (Gk rfl (Gk rfl (Gk rfl (aC)))))))))))))))))))))))))))))))))))))))))))))))))))) (fun _=>rfl) rfl ?_;intro y W4 g _;have p:=ae ht g;replace cx:=cx.ext g;clear g;have hf:Hid (Lk=3):=Lib.hid (by rw[hE.out];exact uz t.out);have hq:Hid (cachedE H.ma=3):=Lib.hid (by rw[ha.out (by rw[hf.out];decide),hf.out]);clear hl hg hu hr;go_wp2;go_ret;rw[hq.out];exact⟨rfl,p⟩
   by_cases c6:(H.m.fs.length:Int)≤c.k
   ·have t:Hid (c.f<0∨(H.ma.st.fs.length:Int)≤c.f∨c.i<0∨((aK H.ma.st c.f).b.length:Int)≤c.i∨c.k<0∨(H.ma.m.fs.length:Int)≤c.k):=Lib.hid (.inr (.inr (.inr (.inr (.inr c6)))));refine aM 51 [_,_,_,_,_,_,_,_,_,_,_,_,_,_,_,_,_,_,_,_,_,_,_,_,_,_,_,_,_,_,_,_,_,_,_,_,_,_,_,_,_,_,_,_,_,_,_,_,_,_,.v (.bool true)] (Gf gc 0 rfl rfl (Gl cx rfl rfl rfl rfl rfl (Gb (.bool false) (by simp[go_sem,c1]) rfl rfl rfl rfl rfl (Gk rfl (Gf gc 0 rfl rfl (Gl cx rfl rfl rfl rfl rfl (Gk rfl (Gk rfl (Gf b 7 rfl rfl (Gf b 7 rfl rfl (Gl z rfl rfl rfl rfl rfl (Gn rfl rfl rfl rfl (Gb (.bool false) (by simp[go_sem,c2]) rfl rfl rfl rfl rfl (Gk rfl (Gk rfl (Gf gc 1 rfl rfl (Gl cx rfl rfl rfl rfl rfl (Gb (.bool false) (by simp[go_sem,c3]) rfl rfl rfl rfl rfl (Gk rfl (Gk rfl (Gf gc 1 rfl rfl (Gl cx rfl rfl rfl rfl rfl (Gk rfl (Gk rfl (Gf b 7 rfl rfl (Gf b 7 rfl rfl (Gl z (V:=.slice (some ⟨bf,of,none⟩) H.fi.length H.ci) (by simp[dh,hl]) rfl rfl rfl rfl (Gf gc 0 rfl rfl (Gl cx (V:=.int .i64 (F:Int)) (by simp[Ao,hu]) rfl rfl rfl rfl (Gr (.pointer (some ⟨bf,of+F*2,none⟩)) (fun ρ y W hb d=>(bF rfl (aF rfl d) (aF rfl d) hg underlying35 file_size)) rfl rfl (Gf bf (of+F*2+1) rfl rfl (Gc (.slice P.a P.l.length P.c) (fun W hb=>by simp[hr _ hb]) rfl rfl rfl rfl (Gn rfl rfl rfl rfl (Gb (.bool false) (by simp[go_sem,c4]) rfl rfl rfl rfl rfl (Gk rfl (Gk rfl (Gf gc 2 rfl rfl (Gl cx rfl rfl rfl rfl rfl (Gb (.bool false) (by simp[go_sem,c5]) rfl rfl rfl rfl rfl (Gk rfl (Gk rfl (Gf gc 2 rfl rfl (Gl cx rfl rfl rfl rfl rfl (Gk rfl (Gk rfl (Gf b 0 rfl rfl (Gf b 0 rfl rfl (Gl z rfl rfl rfl rfl rfl (Gn rfl rfl rfl rfl (Gb (.bool true) (by simp[go_sem,c6]) rfl rfl rfl rfl rfl (Gk rfl (aC)))))))))))))))))))))))))))))))))))))))))))))))))))) (fun _=>rfl) rfl ?_;intro y W4 g _;have p:=ae ht g;replace cx:=cx.ext g;clear g;have hf:Hid (Lk=3):=Lib.hid (by rw[hE.out];exact uz t.out);have hq:Hid (cachedE H.ma=3):=Lib.hid (by rw[ha.out (by rw[hf.out];decide),hf.out]);clear hl hg hu hr;go_wp2;go_ret;rw[hq.out];exact⟨rfl,p⟩
   refine aM 51 [_,_,_,_,_,_,_,_,_,_,_,_,_,_,_,_,_,_,_,_,_,_,_,_,_,_,_,_,_,_,_,_,_,_,_,_,_,_,_,_,_,_,_,_,_,_,_,_,_,_,.v (.bool false)] (Gf gc 0 rfl rfl (Gl cx rfl rfl rfl rfl rfl (Gb (.bool false) (by simp[go_sem,c1]) rfl rfl rfl rfl rfl (Gk rfl (Gf gc 0 rfl rfl (Gl cx rfl rfl rfl rfl rfl (Gk rfl (Gk rfl (Gf b 7 rfl rfl (Gf b 7 rfl rfl (Gl z rfl rfl rfl rfl rfl (Gn rfl rfl rfl rfl (Gb (.bool false) (by simp[go_sem,c2]) rfl rfl rfl rfl rfl (Gk rfl (Gk rfl (Gf gc 1 rfl rfl (Gl cx rfl rfl rfl rfl rfl (Gb (.bool false) (by simp[go_sem,c3]) rfl rfl rfl rfl rfl (Gk rfl (Gk rfl (Gf gc 1 rfl rfl (Gl cx rfl rfl rfl rfl rfl (Gk rfl (Gk rfl (Gf b 7 rfl rfl (Gf b 7 rfl rfl (Gl z (V:=.slice (some ⟨bf,of,none⟩) H.fi.length H.ci) (by simp[dh,hl]) rfl rfl rfl rfl (Gf gc 0 rfl rfl (Gl cx (V:=.int .i64 (F:Int)) (by simp[Ao,hu]) rfl rfl rfl rfl (Gr (.pointer (some ⟨bf,of+F*2,none⟩)) (fun ρ y W hb d=>(bF rfl (aF rfl d) (aF rfl d) hg underlying35 file_size)) rfl rfl (Gf bf (of+F*2+1) rfl rfl (Gc (.slice P.a P.l.length P.c) (fun W hb=>by simp[hr _ hb]) rfl rfl rfl rfl (Gn rfl rfl rfl rfl (Gb (.bool false) (by simp[go_sem,c4]) rfl rfl rfl rfl rfl (Gk rfl (Gk rfl (Gf gc 2 rfl rfl (Gl cx rfl rfl rfl rfl rfl (Gb (.bool false) (by simp[go_sem,c5]) rfl rfl rfl rfl rfl (Gk rfl (Gk rfl (Gf gc 2 rfl rfl (Gl cx rfl rfl rfl rfl rfl (Gk rfl (Gk rfl (Gf b 0 rfl rfl (Gf b 0 rfl rfl (Gl z rfl rfl rfl rfl rfl (Gn rfl rfl rfl rfl (Gb (.bool false) (by simp[go_sem,c6]) rfl rfl rfl rfl rfl (Gk rfl (aC)))))))))))))))))))))))))))))))))))))))))))))))))))) (fun _=>rfl) rfl ?_;intro y W4 g _;have p:=ae ht g;replace cx:=cx.ext g;clear g;obtain⟨K,kg⟩:∃K:Nat,c.k=K:=⟨c.k.toNat,by omega⟩;have hO:K<H.m.fs.length:=by omega
   have hR:=hbk.ext p;have h5:=h.below p;obtain⟨bg,og,kr,hF⟩:=jX fJ (by decide) h5.fr.rd K hO;have hy:Hid (Lk=if (aN H.ma K).r<1∨(aN H.ma K).f≠c.f∨(aN H.ma K).i≠c.i then 7 else match xX H.ca k with
    | none=>0
    | some q=>if c.f<q.f∨q.f=c.f∧c.i≤q.i then 2 else 0):=Lib.hid (by
    rw[hE.out];unfold sU;rw[if_neg (by rw[hY.out,hG.out];show ¬(c.f<0∨(H.fi.length:Int)≤c.f∨c.i<0∨(P.l.length:Int)≤c.i∨c.k<0∨(H.m.fs.length:Int)≤c.k);omega),kg];rfl)
   have h3:H.m.fs[K]=aN H.ma K:=by have:=yG (m:=H.ma) (f:=K) hO;have h2:H.m.fs[K]?=some (aN H.ma K):=this;rw[aH hO] at h2;exact aJ h2
   rw[h3] at hF;generalize aN H.ma K=x at *
   clear h3 hl hg hr hG hY z hV c2 c3 c4 c5 c6 c1 hE hu;go_upto_region 6 with (fail);refine aM 10 [_,_,_,_,_,_,_,_,_,.r 9 ((ky W4.heap.size 81 13))] (Gk rfl (Gk rfl (Gf b 0 rfl rfl (Gf b 0 rfl rfl (Gl hR (V:=.slice (some ⟨bg,og,none⟩) H.m.fs.length H.cf) (by simp[dh,kr]) rfl rfl rfl rfl (Gf gc 2 rfl rfl (Gl cx (V:=.int .i64 (K:Int)) (by simp[Ao,kg]) rfl rfl rfl rfl (Gr (.pointer (some ⟨bg,og+K*13,none⟩)) (fun ρ y W hb d=>(bF rfl (aF rfl d) (aF rfl d) hO underlying26 frame_size)) rfl rfl (Gr (.agg (vW x)) (fun ρ y W hb d=>(bC rfl (aF rfl d) (hF.below hb) underlying81 rfl frame_size)) rfl rfl (ag ?_ (aC))))))))))) (fun _=>rfl) rfl ?_
   ·intro ρ y W hw hn hb hd;refine jU (.pointer (some ⟨W.heap.size,0,none⟩)) (ah rfl) (by simp[execOp,go_sem]) ((Below.refl _ _).alloc (ay _) (.cells #[.int .u8 0,.int .u8 0,.int .u8 0,.int .u8 0,.int .u8 0,.int .u8 0,.int .u8 0,.int .u8 0,.int .i64 0,.bool false,.bool false,.int .i64 0,.int .i64 0] 81)) ?_;exact⟨_,_,rfl,hb.size,aB.new _ _ _,rfl⟩
   intro y W5 hI hU;have kn:((ky W4.heap.size 81 13)).r (y 9) W5:=hU 9 (by decide);clear hU;obtain⟨gx,curx,h9,h8,ki,hQ⟩:=kn;rw[h9]
   go_wp2_with (refine gP rfl _ _ _ rfl gx 0 (vW x) rfl rfl _ _ ki (by rw[hQ];exact ay _) frame_size (qw x) ?_)
   intro w6 hZ ka;rw[iT _ _ (by rw[hQ];rfl)] at hZ;have hC:Below W4.heap.size W4 w6:=hI.grown ka hI.size (fun k hk=>by cases hk;exact h8);have hm:=ae p hC;have cx6:=cx.ext hC;have n:=hbk.ext hm;clear ki hI ka cx hR h5 hF hC h9;have kc:=hZ.cell;unfold vW at kc;have ke:=cx6.cell;unfold Ao at ke
   by_cases d1:x.r<1
   ·have hB:Hid (Lk=7):=Lib.hid (by rw[hy.out,if_pos (.inl d1)]);have hq:Hid (cachedE H.ma=7):=Lib.hid (by rw[ha.out (by rw[hB.out];decide),hB.out]);clear n;go_wp2;go_ret;rw[hq.out];exact⟨rfl,hm⟩
   by_cases d2:x.f=c.f
   rotate_left
   ·have hB:Hid (Lk=7):=Lib.hid (by rw[hy.out,if_pos (.inr (.inl d2))]);have hq:Hid (cachedE H.ma=7):=Lib.hid (by rw[ha.out (by rw[hB.out];decide),hB.out]);clear n;go_wp2;go_ret;rw[hq.out];exact⟨rfl,hm⟩
   by_cases d3:x.i=c.i
   rotate_left
   ·have hB:Hid (Lk=7):=Lib.hid (by rw[hy.out,if_pos (.inr (.inr d3))]);have hq:Hid (cachedE H.ma=7):=Lib.hid (by rw[ha.out (by rw[hB.out];decide),hB.out]);clear n;go_wp2;go_ret;rw[hq.out];exact⟨rfl,hm⟩
   rw[if_neg (by rintro (h | h | h);exact d1 h;exact h d2;exact h d3)] at hy;go_upto_region 9 with (fail);clear kc ke hZ d1 d2 d3;obtain⟨k1,q,hh,o,hp,hx,h7⟩:∃(k1:Nat) (q:Cc),(0<k→IntKind.i64.wrap ((k:Int)-1)=(k1:Int))∧(0<k→k1<H.ca.length)∧(0<k→∀W,Below w6.heap.size w6 W→W.cell? ⟨bc,oc+k1*3,none⟩=some (.int .i64 q.f))∧(0<k→∀W,Below w6.heap.size w6 W→W.cell? ⟨bc,oc+k1*3+1,none⟩=some (.int .i64 q.i))∧(0<k→xX H.ca k=some q):=by
    by_cases h0:0<k
    ·have hD:k-1<H.ca.length:=by omega
     have hH:∀W,Below w6.heap.size w6 W→W.cell? ⟨bc,oc+(k-1)*3,none⟩=some (.int .i64 H.ca[k-1].f)∧W.cell? ⟨bc,oc+(k-1)*3+1,none⟩=some (.int .i64 H.ca[k-1].i):=fun W hb=>by obtain⟨bc',oc',c',hT,kh,e1,e2,_⟩:=Vh (h.below (ae hm hb)).ca.rd (k-1) hD;rw[aH hD] at kh;cases kh;rw[hv] at hT;cases hT;exact⟨e1,e2⟩
     refine⟨k-1,H.ca[k-1],fun _ => ?_,fun _=>hD,fun _ W hb=>(hH W hb).1,fun _ W hb=>(hH W hb).2,fun _ => ?_⟩
     ·rw[show (k:Int)-1=((k-1:Nat):Int) by omega];exact bM _ (by omega)
     ·rw[h6.out,if_neg (by omega),aH hD]
    ·exact⟨0,zCc,fun h'=>absurd h' h0,fun h'=>absurd h' h0,fun h'=>absurd h' h0,fun h'=>absurd h' h0,fun h'=>absurd h' h0⟩
   by_cases e1:k=0
   ·have e1i:¬(0:Int)<(k:Int):=by omega
    have hK:Hid (Lk=0):=Lib.hid (by rw[hy.out,h6.out,if_pos e1]);refine aM 44 [_,_,_,_,_,_,_,_,_,_,_,_,_,_,_,_,_,_,_,_,_,_,_,_,_,_,_,_,_,_,_,_,_,_,_,_,_,_,_,_,_,_,_,.v (.bool false)] (Gk rfl (Gb (.bool false) (by simp[go_sem,e1]) rfl rfl rfl rfl rfl (Gk rfl (Gk rfl (Gk rfl (Gk rfl (Gk rfl (Gk rfl (Gk rfl (Gk rfl (Gk rfl (Gk rfl (Gk rfl (Gk rfl (Gk rfl (Gk rfl (Gk rfl (Gk rfl (Gk rfl (Gk rfl (Gk rfl (Gk rfl (Gk rfl (Gk rfl (Gk rfl (Gk rfl (Gk rfl (Gk rfl (Gk rfl (Gk rfl (Gk rfl (Gk rfl (Gk rfl (Gk rfl (Gk rfl (Gk rfl (Gk rfl (Gk rfl (Gk rfl (Gk rfl (Gk rfl (Gk rfl (Gk rfl (Gk rfl (aC))))))))))))))))))))))))))))))))))))))))))))) (fun _=>rfl) rfl ?_;intro y W7 u _;have hs:=ae hm u;clear u;have hA:=Lib.hid (hW.out hK.out);clear hp hx hh o cx6 n;go_wp2;go_roundw
    case rel=>exact⟨k+1,by omega,by go_num,hs,hA⟩
    case measure=>simp[intOf];omega
   have e1i:0<k:=by omega
   replace hh:=hh (by omega);replace o:=o (by omega);replace hp:=hp (by omega);replace hx:=hx (by omega);have hM:=Lib.hid (h7 (by omega));clear h7
   by_cases e2:c.f<q.f
   ·have t:Hid (c.f<q.f∨q.f=c.f∧c.i≤q.i):=Lib.hid (.inl e2);refine aM 44 [_,_,_,_,_,_,_,_,_,_,_,_,_,_,_,_,_,_,_,_,_,_,_,_,_,_,_,_,_,_,_,_,_,_,_,_,_,_,_,_,_,_,_,.v (.bool true)] (Gk rfl (Gb (.bool true) (by simp[go_sem,e1i]) rfl rfl rfl rfl rfl (Gk rfl (Gk rfl (Gk rfl (Gf b 9 rfl rfl (Gl n (V:=.slice (some ⟨bc,oc,none⟩) H.ca.length H.cc) (by simp[dh,hv]) rfl rfl rfl rfl (Gk rfl (Gb (.int .i64 (k1:Int)) (by simp[go_sem,hh]) rfl rfl rfl rfl rfl (Gr (.pointer (some ⟨bc,oc+k1*3,none⟩)) (fun ρ y W hb d=>(bF rfl (aF rfl d) (aF rfl d) o underlying38 cached_size)) rfl rfl (Gf bc (oc+k1*3) rfl rfl (Gc (.int .i64 q.f) (fun W hb=>by simp[hp _ hb]) rfl rfl rfl rfl (Gf gc 0 rfl rfl (Gl cx6 rfl rfl rfl rfl rfl (Gb (.bool true) (by simp[go_sem,e2]) rfl rfl rfl rfl rfl (Gk rfl (Gk rfl (Gk rfl (Gk rfl (Gk rfl (Gk rfl (Gk rfl (Gk rfl (Gk rfl (Gk rfl (Gk rfl (Gk rfl (Gk rfl (Gk rfl (Gk rfl (Gk rfl (Gk rfl (Gk rfl (Gk rfl (Gk rfl (Gk rfl (Gk rfl (Gk rfl (Gk rfl (Gk rfl (Gk rfl (Gk rfl (Gk rfl (Gk rfl (aC))))))))))))))))))))))))))))))))))))))))))))) (fun _=>rfl) rfl ?_;intro y W7 u _;have hs:=ae hm u;clear u;have hJ:Hid (Lk=2):=Lib.hid (by rw[hy.out,hM.out];simp only;rw[if_pos t.out]);have hq:Hid (cachedE H.ma=2):=Lib.hid (by rw[ha.out (by rw[hJ.out];decide),hJ.out]);clear hp hx hh o cx6 n;go_wp2;go_ret;rw[hq.out];exact⟨rfl,hs⟩
   by_cases e3:q.f=c.f
   ·by_cases e4:c.i≤q.i
    ·have t:Hid (c.f<q.f∨q.f=c.f∧c.i≤q.i):=Lib.hid (.inr ⟨e3,e4⟩);refine aM 44 [_,_,_,_,_,_,_,_,_,_,_,_,_,_,_,_,_,_,_,_,_,_,_,_,_,_,_,_,_,_,_,_,_,_,_,_,_,_,_,_,_,_,_,.v (.bool true)] (Gk rfl (Gb (.bool true) (by simp[go_sem,e1i]) rfl rfl rfl rfl rfl (Gk rfl (Gk rfl (Gk rfl (Gf b 9 rfl rfl (Gl n (V:=.slice (some ⟨bc,oc,none⟩) H.ca.length H.cc) (by simp[dh,hv]) rfl rfl rfl rfl (Gk rfl (Gb (.int .i64 (k1:Int)) (by simp[go_sem,hh]) rfl rfl rfl rfl rfl (Gr (.pointer (some ⟨bc,oc+k1*3,none⟩)) (fun ρ y W hb d=>(bF rfl (aF rfl d) (aF rfl d) o underlying38 cached_size)) rfl rfl (Gf bc (oc+k1*3) rfl rfl (Gc (.int .i64 q.f) (fun W hb=>by simp[hp _ hb]) rfl rfl rfl rfl (Gf gc 0 rfl rfl (Gl cx6 rfl rfl rfl rfl rfl (Gb (.bool false) (by simp[go_sem,e2]) rfl rfl rfl rfl rfl (Gk rfl (Gk rfl (Gk rfl (Gf b 9 rfl rfl (Gl n (V:=.slice (some ⟨bc,oc,none⟩) H.ca.length H.cc) (by simp[dh,hv]) rfl rfl rfl rfl (Gk rfl (Gb (.int .i64 (k1:Int)) (by simp[go_sem,hh]) rfl rfl rfl rfl rfl (Gr (.pointer (some ⟨bc,oc+k1*3,none⟩)) (fun ρ y W hb d=>(bF rfl (aF rfl d) (aF rfl d) o underlying38 cached_size)) rfl rfl (Gf bc (oc+k1*3) rfl rfl (Gc (.int .i64 q.f) (fun W hb=>by simp[hp _ hb]) rfl rfl rfl rfl (Gf gc 0 rfl rfl (Gl cx6 rfl rfl rfl rfl rfl (Gb (.bool true) (by simp[go_sem,e3]) rfl rfl rfl rfl rfl (Gk rfl (Gk rfl (Gk rfl (Gf b 9 rfl rfl (Gl n (V:=.slice (some ⟨bc,oc,none⟩) H.ca.length H.cc) (by simp[dh,hv]) rfl rfl rfl rfl (Gk rfl (Gb (.int .i64 (k1:Int)) (by simp[go_sem,hh]) rfl rfl rfl rfl rfl (Gr (.pointer (some ⟨bc,oc+k1*3,none⟩)) (fun ρ y W hb d=>(bF rfl (aF rfl d) (aF rfl d) o underlying38 cached_size)) rfl rfl (Gf bc (oc+k1*3+1) rfl rfl (Gc (.int .i64 q.i) (fun W hb=>by simp[hx _ hb]) rfl rfl rfl rfl (Gf gc 1 rfl rfl (Gl cx6 rfl rfl rfl rfl rfl (Gb (.bool true) (by simp[go_sem,e4]) rfl rfl rfl rfl rfl (Gk rfl (Gk rfl (Gk rfl (aC))))))))))))))))))))))))))))))))))))))))))))) (fun _=>rfl) rfl ?_;intro y W7 u _;have hs:=ae hm u;clear u;have hJ:Hid (Lk=2):=Lib.hid (by rw[hy.out,hM.out];simp only;rw[if_pos t.out]);have hq:Hid (cachedE H.ma=2):=Lib.hid (by rw[ha.out (by rw[hJ.out];decide),hJ.out]);clear hp hx hh o cx6 n;go_wp2;go_ret;rw[hq.out];exact⟨rfl,hs⟩
    have hK:Hid (Lk=0):=Lib.hid (by rw[hy.out,hM.out];simp only;rw[if_neg (by omega)]);refine aM 44 [_,_,_,_,_,_,_,_,_,_,_,_,_,_,_,_,_,_,_,_,_,_,_,_,_,_,_,_,_,_,_,_,_,_,_,_,_,_,_,_,_,_,_,.v (.bool false)] (Gk rfl (Gb (.bool true) (by simp[go_sem,e1i]) rfl rfl rfl rfl rfl (Gk rfl (Gk rfl (Gk rfl (Gf b 9 rfl rfl (Gl n (V:=.slice (some ⟨bc,oc,none⟩) H.ca.length H.cc) (by simp[dh,hv]) rfl rfl rfl rfl (Gk rfl (Gb (.int .i64 (k1:Int)) (by simp[go_sem,hh]) rfl rfl rfl rfl rfl (Gr (.pointer (some ⟨bc,oc+k1*3,none⟩)) (fun ρ y W hb d=>(bF rfl (aF rfl d) (aF rfl d) o underlying38 cached_size)) rfl rfl (Gf bc (oc+k1*3) rfl rfl (Gc (.int .i64 q.f) (fun W hb=>by simp[hp _ hb]) rfl rfl rfl rfl (Gf gc 0 rfl rfl (Gl cx6 rfl rfl rfl rfl rfl (Gb (.bool false) (by simp[go_sem,e2]) rfl rfl rfl rfl rfl (Gk rfl (Gk rfl (Gk rfl (Gf b 9 rfl rfl (Gl n (V:=.slice (some ⟨bc,oc,none⟩) H.ca.length H.cc) (by simp[dh,hv]) rfl rfl rfl rfl (Gk rfl (Gb (.int .i64 (k1:Int)) (by simp[go_sem,hh]) rfl rfl rfl rfl rfl (Gr (.pointer (some ⟨bc,oc+k1*3,none⟩)) (fun ρ y W hb d=>(bF rfl (aF rfl d) (aF rfl d) o underlying38 cached_size)) rfl rfl (Gf bc (oc+k1*3) rfl rfl (Gc (.int .i64 q.f) (fun W hb=>by simp[hp _ hb]) rfl rfl rfl rfl (Gf gc 0 rfl rfl (Gl cx6 rfl rfl rfl rfl rfl (Gb (.bool true) (by simp[go_sem,e3]) rfl rfl rfl rfl rfl (Gk rfl (Gk rfl (Gk rfl (Gf b 9 rfl rfl (Gl n (V:=.slice (some ⟨bc,oc,none⟩) H.ca.length H.cc) (by simp[dh,hv]) rfl rfl rfl rfl (Gk rfl (Gb (.int .i64 (k1:Int)) (by simp[go_sem,hh]) rfl rfl rfl rfl rfl (Gr (.pointer (some ⟨bc,oc+k1*3,none⟩)) (fun ρ y W hb d=>(bF rfl (aF rfl d) (aF rfl d) o underlying38 cached_size)) rfl rfl (Gf bc (oc+k1*3+1) rfl rfl (Gc (.int .i64 q.i) (fun W hb=>by simp[hx _ hb]) rfl rfl rfl rfl (Gf gc 1 rfl rfl (Gl cx6 rfl rfl rfl rfl rfl (Gb (.bool false) (by simp[go_sem,e4]) rfl rfl rfl rfl rfl (Gk rfl (Gk rfl (Gk rfl (aC))))))))))))))))))))))))))))))))))))))))))))) (fun _=>rfl) rfl ?_;intro y W7 u _;have hs:=ae hm u;clear u;have hA:=Lib.hid (hW.out hK.out);clear hp hx hh o cx6 n;go_wp2;go_roundw
    case rel=>exact⟨k+1,by omega,by go_num,hs,hA⟩
    case measure=>simp[intOf];omega
   have hK:Hid (Lk=0):=Lib.hid (by rw[hy.out,hM.out];simp only;rw[if_neg (by omega)]);refine aM 44 [_,_,_,_,_,_,_,_,_,_,_,_,_,_,_,_,_,_,_,_,_,_,_,_,_,_,_,_,_,_,_,_,_,_,_,_,_,_,_,_,_,_,_,.v (.bool false)] (Gk rfl (Gb (.bool true) (by simp[go_sem,e1i]) rfl rfl rfl rfl rfl (Gk rfl (Gk rfl (Gk rfl (Gf b 9 rfl rfl (Gl n (V:=.slice (some ⟨bc,oc,none⟩) H.ca.length H.cc) (by simp[dh,hv]) rfl rfl rfl rfl (Gk rfl (Gb (.int .i64 (k1:Int)) (by simp[go_sem,hh]) rfl rfl rfl rfl rfl (Gr (.pointer (some ⟨bc,oc+k1*3,none⟩)) (fun ρ y W hb d=>(bF rfl (aF rfl d) (aF rfl d) o underlying38 cached_size)) rfl rfl (Gf bc (oc+k1*3) rfl rfl (Gc (.int .i64 q.f) (fun W hb=>by simp[hp _ hb]) rfl rfl rfl rfl (Gf gc 0 rfl rfl (Gl cx6 rfl rfl rfl rfl rfl (Gb (.bool false) (by simp[go_sem,e2]) rfl rfl rfl rfl rfl (Gk rfl (Gk rfl (Gk rfl (Gf b 9 rfl rfl (Gl n (V:=.slice (some ⟨bc,oc,none⟩) H.ca.length H.cc) (by simp[dh,hv]) rfl rfl rfl rfl (Gk rfl (Gb (.int .i64 (k1:Int)) (by simp[go_sem,hh]) rfl rfl rfl rfl rfl (Gr (.pointer (some ⟨bc,oc+k1*3,none⟩)) (fun ρ y W hb d=>(bF rfl (aF rfl d) (aF rfl d) o underlying38 cached_size)) rfl rfl (Gf bc (oc+k1*3) rfl rfl (Gc (.int .i64 q.f) (fun W hb=>by simp[hp _ hb]) rfl rfl rfl rfl (Gf gc 0 rfl rfl (Gl cx6 rfl rfl rfl rfl rfl (Gb (.bool false) (by simp[go_sem,e3]) rfl rfl rfl rfl rfl (Gk rfl (Gk rfl (Gk rfl (Gk rfl (Gk rfl (Gk rfl (Gk rfl (Gk rfl (Gk rfl (Gk rfl (Gk rfl (Gk rfl (Gk rfl (Gk rfl (Gk rfl (Gk rfl (aC))))))))))))))))))))))))))))))))))))))))))))) (fun _=>rfl) rfl ?_;intro y W7 u _;have hs:=ae hm u;clear u;have hA:=Lib.hid (hW.out hK.out);clear hp hx hh o cx6 n;go_wp2;go_roundw
   case rel=>exact⟨k+1,by omega,by go_num,hs,hA⟩
   case measure=>simp[intOf];omega
  have kq:¬(k:Int)<(H.ca.length:Int):=by omega
  have hq:Hid (cachedE H.ma=0):=Lib.hid (by rw[km.out,sK fun i hi=>hz.out i hi (by rw[kl.out] at hi;omega)]);clear hz;go_wp2;go_ret;rw[hq.out];exact⟨rfl,hN⟩
theorem PK {s:Sp} {n:Int} (h:kH s.ar n<0):bQ m s n=5:=by unfold bQ;exact if_pos h
theorem Mq (H:MH) (P:PS) (n:Int) (b bs os:Nat) (w:World) (hbk:aB w b (dh H) 41) (h:BR w H) (hrd:dP w (some ⟨bs,os,none⟩) (sW P)) (hg:P.good w) (har:(bI P.ar).1=0) (htb:cB P.tb=0) (hn:0≤n∧n<64) :
  Calls Tryz.prog 68 #[.pointer (some ⟨b,0,none⟩),.pointer (some ⟨bs,os,none⟩),.int .i64 n] w fun r w'=>r = .returned (.int .i64 (bQ H.ma P.sp n))∧Below w.heap.size w w':=by
 have hV:∀W,Below w.heap.size w W→W.cell? ⟨bs,os+1,none⟩=some (.slice P.aa P.ar.length P.ac):=fun W hb=>by obtain⟨b',o',e,hc⟩:=(hrd.below hb) 1 _ rfl;cases e;exact hc
 go_enter func68,ntmps68;have ki:=hV w (Below.refl _ _);have hA:=hg.ars
 go_wp2_with fail
 refine (OT P.ar n P.aa P.ac _ hA.rd (by have:=hA.le;have:=hA.mx;unfold maxLen at this;omega)).mono ?_;rintro r w1 ⟨rfl,hx⟩;have hT:=hbk.ext hx;have h1:=h.below hx;have hX:=hg.below hx;have hR:=hrd.below hx;clear ki hA
 by_cases hf:kH P.ar n<0
 ·have hq:Hid (bQ H.ma P.sp n=5):=Lib.hid (PK hf);clear hT;go_wp2;go_ret;rw[hq.out];exact⟨rfl,hx⟩
 have hE:Hid (bQ H.ma P.sp n=(let a:=P.ar.getD (kH P.ar n).toNat zAr
  let e:=dH P.tb n
  if e.k=2 then (if (H.sl.length:Int)≤e.n∨a.sh=true then 7 else 0)
  else if (H.m.fs.length:Int)≤e.n then 3 else
  let f:=rH H.ma e.n;let of:=decide (0≤a.fi)&&decide (f.f=a.fi)&&decide (f.i=a.ba+n-a.fr)
  if 0≤f.f∧of=false∨a.sh=true∧of=false∨a.sh=false∧of=true∧e.w=true∨e.w=true∧a.wr=false then 7
  else if f.f<0∧e.w=true∧1<f.r then 7 else 0)):=Lib.hid (by unfold bQ;exact if_neg hf)
 obtain⟨k,hk,hO,_⟩:=NZ (q:=nZ n) (l:=P.ar) (by show 0≤kH P.ar n;omega);have hW : kH P.ar n=k:=hk;rw[hW,bR,aS,aH hO] at hE;simp only[oq] at hE;have ku:¬(k:Int)<0:=by omega
 rw[hW];obtain⟨ba,oa,kl,hU⟩:=jX sN (by decide) hX.ars.rd k hO;have kg:=(Bn har).2 _ (dN hO);have hM:=(bD kg).1;have kt:=(dx _).1 (rC htb n);generalize P.ar[k]=a at *
 generalize hge:dH P.tb n=e at *
 have ka:=Lib.hid hge;clear hk hW hf kg hge;go_upto_region 4 with (fail);refine nu 15 [_,_,_,_,_,_,_,_,_,_,_,.v (.agg (jw e)),.r 12 ((ky w1.heap.size 89 3)),.v (.pointer (some ⟨ba,oa+k*7,none⟩)),.y 14 ((Sr 12 w1.heap.size 89 (ul (.agg (jw e)))))] (fun W=>Below w1.heap.size w1 W) gJ (Below.refl _ _) (Yk gJ rfl (Yk gJ rfl (Yf gJ bs (os+1) rfl rfl (Yc gJ (.slice (some ⟨ba,oa,none⟩) P.ar.length P.ac) (fun W hb=>by simp[hV _ (ae hx hb),kl]) rfl rfl rfl rfl (Yk gJ rfl (Yr gJ (.pointer (some ⟨ba,oa+k*7,none⟩)) (fun ρ y W hb hB=>(bF rfl (aF rfl hB) (aF rfl hB) hO underlying50 area_size)) rfl rfl (Yk gJ rfl (Yk gJ rfl (Yf gJ bs (os+2) rfl rfl (Yr gJ (.agg (nP P.ts)) (fun ρ y W hb hB=>(bC rfl (aF rfl hB) (uD (hR.below hb) 2 8) underlying53 tab_agg tab_size)) rfl rfl (Yk gJ rfl (ag ?_ (ag ?_ (Yk gJ rfl (ag ?_ (aC)))))))))))))))) (fun _=>rfl) rfl ?_
 ·intro ρ y W hw hn hb hd;refine lZ gJ hb (ul (.agg (jw e))) (fun _ _ h=>h) ?_;have kr:=hw 30 9 rfl;have h9:y 9 = .agg (nP P.ts):=hd 9 rfl;have kq:=hw 31 10 rfl;have ko:y 10 = .int .i64 n:=hd 10 rfl;have EF:∀f,ρ (.func f) = .func (.func f) #[] #[]:=fun f=>hn (.func f) trivial;refine aR _ _ (ah rfl) (aU rfl (EF _) func69 (by kernel_rfl) (by kernel_rfl) (by simp only[bV,bP,bT,kr,h9,kq,ko,EF];rfl)) ?_;refine (zl P.tb (nP P.ts) n W (hX.below hb).tb).mono ?_;rintro r w2 ⟨rfl,kj⟩;rw[ka.out];exact⟨_,rfl,kj,rfl⟩
 ·intro ρ y W hw hn hb hd;refine lZ gJ hb ((ky w1.heap.size 89 3)) (fun _ _ h=>h) ?_;refine jU (.pointer (some ⟨W.heap.size,0,none⟩)) (ah rfl) (by simp[execOp,go_sem,bX]) ((Below.refl _ _).alloc (ay _) (.cells #[.int .i64 0,.int .i64 0,.bool false] 89)) ?_;exact⟨_,_,rfl,hb.size,aB.new _ _ _,rfl⟩
 ·intro ρ y W hw hn hb hd;have E9:=hw 9 12 rfl;have km:=hd 12 rfl;have kp:=hw 32 11 rfl;have kn:y 11 = .agg (jw e):=hd 11 rfl;obtain⟨g3,cur3,e9,kb,ke,h7⟩:=km;refine qY (ah rfl) _ _ _ rfl g3 0 (.agg (jw e)) (jw e).toList (E9.trans e9) (kp.trans kn) rfl cur3 _ ke (by rw[h7];exact ay _) entry_size (bS (by simp[jw,Value.oneCell'])) ?_;intro w1 hG h8;rw[iT cur3 _ (by rw[h7];rfl)] at hG;refine⟨hb.grown h8 hb.size (fun k hk=>by cases hk;exact kb),⟨g3,_,e9,kb,hG,rfl⟩,?_⟩;intro k hk kh
  match k,hk,kh with
  | 0,_,_=>exact fun h=>h
  | 1,_,_=>exact fun h=>h
  | 2,_,_=>exact fun h=>h
  | 3,_,_=>exact fun h=>h
  | 4,_,_=>exact fun h=>h
  | 5,_,_=>exact fun h=>h
  | 6,_,_=>exact fun h=>h
  | 7,_,_=>exact fun h=>h
  | 8,_,_=>exact fun h=>h
  | 9,_,_=>exact fun h=>h
  | 10,_,_=>exact fun h=>h
  | 11,_,_=>exact fun h=>h
  | 12,_,_=>exact fun q=>pM q hG (fun _=>rfl) ⟨_,ke⟩ h8
  | 13,_,_=>exact fun h=>h
  | 14,_,h=>exact absurd rfl h
  | n+15,h,_=>exact absurd h (by omega)
 intro y w4 hF hN;replace hF:Below w1.heap.size w1 w4:=hF;have h0:((ky w1.heap.size 89 3)).r (y 12) w4:=hN 12 (by decide);have hZ:=hN 14 (by decide);clear hN;simp only[bU,bX,bP,bT];obtain⟨ge,cce,hS,ks,kf,kc⟩:=hZ;have hY : cce=jw e:=by simpa[ul] using kc
 subst hY;rw[hS];have hz:=hF;have hm:=ae hx hz;have ex:=kf;have hs:=hbk.ext hm;have h4:=h.below hm;have hL:=hU.below hz;clear hF hz hS kf hU hR hT h1 hx hV hX h0;have hH:∀j u,(mM a)[j]?=some u→∀W,Below w4.heap.size w4 W→W.cell? ⟨ba,oa+k*7+j,none⟩=some u:=fun j u hj W hb=>by obtain⟨b',o',e',hc⟩:=(hL.below hb) j u hj;cases e';exact hc
 have hl:=hH 3 _ rfl;have hi:=hH 4 _ rfl;have t:=hH 5 _ rfl;have hC:=hH 6 _ rfl;have hD:∀W,Below w4.heap.size w4 W→W.cell? ⟨ba,oa+k*7,none⟩=some (.int .i64 a.fr):=hH 0 _ rfl;have s:=ex.cell;unfold jw at s;clear hH hL
 by_cases hk2:e.k=2
 ·rw[if_pos hk2] at hE;rw[hk2] at s;go_upto_region 6 with (fail);clear s hk2
  by_cases c1:(H.sl.length:Int)≤e.n
  ·have hq:Hid (bQ H.ma P.sp n=7):=Lib.hid (by rw[hE.out,if_pos (.inl c1)]);refine aM 14 [_,_,_,_,_,_,_,_,_,_,_,_,_,.v (.bool true)] (Gf ge 1 rfl rfl (Gl ex rfl rfl rfl rfl rfl (Gk rfl (Gk rfl (Gf b 2 rfl rfl (Gl hs rfl rfl rfl rfl rfl (Gn rfl rfl rfl rfl (Gb (.bool true) (by simp[go_sem,c1]) rfl rfl rfl rfl rfl (Gk rfl (Gk rfl (Gk rfl (Gk rfl (Gk rfl (Gk rfl (aC))))))))))))))) (fun _=>rfl) rfl ?_;intro y W5 o _;have p:=ae hm o;clear o;go_wp2;go_ret;rw[hq.out];exact⟨rfl,p⟩
  cases c2:a.sh with
  | true=>
   have hq:Hid (bQ H.ma P.sp n=7):=Lib.hid (by rw[hE.out,if_pos (.inr c2)]);refine aM 14 [_,_,_,_,_,_,_,_,_,_,_,_,_,.v (.bool true)] (Gf ge 1 rfl rfl (Gl ex rfl rfl rfl rfl rfl (Gk rfl (Gk rfl (Gf b 2 rfl rfl (Gl hs rfl rfl rfl rfl rfl (Gn rfl rfl rfl rfl (Gb (.bool false) (by simp[go_sem,c1]) rfl rfl rfl rfl rfl (Gk rfl (Gk rfl (Gk rfl (Gf ba (oa+k*7+4) rfl rfl (Gc (.bool true) (fun W hb=>by simp[hi _ hb,c2]) rfl rfl rfl rfl (Gk rfl (aC))))))))))))))) (fun _=>rfl) rfl ?_;intro y W5 o _;have p:=ae hm o;clear o;go_wp2;go_ret;rw[hq.out];exact⟨rfl,p⟩
  | false=>
   have hq:Hid (bQ H.ma P.sp n=0):=Lib.hid (by rw[hE.out,if_neg (by rw[c2];simp;omega)]);refine aM 14 [_,_,_,_,_,_,_,_,_,_,_,_,_,.v (.bool false)] (Gf ge 1 rfl rfl (Gl ex rfl rfl rfl rfl rfl (Gk rfl (Gk rfl (Gf b 2 rfl rfl (Gl hs rfl rfl rfl rfl rfl (Gn rfl rfl rfl rfl (Gb (.bool false) (by simp[go_sem,c1]) rfl rfl rfl rfl rfl (Gk rfl (Gk rfl (Gk rfl (Gf ba (oa+k*7+4) rfl rfl (Gc (.bool false) (fun W hb=>by simp[hi _ hb,c2]) rfl rfl rfl rfl (Gk rfl (aC))))))))))))))) (fun _=>rfl) rfl ?_;intro y W5 o _;have p:=ae hm o;clear o;go_wp2;go_ret;rw[hq.out];exact⟨rfl,p⟩
 rw[if_neg hk2] at hE;obtain⟨K,hK⟩:∃K:Nat,e.n=K:=⟨e.n.toNat,by omega⟩;rw[hK] at hE;go_upto_region 9 with (fail);clear s
 by_cases c3:(H.m.fs.length:Int)≤(K:Int)
 ·have hq:Hid (bQ H.ma P.sp n=3):=Lib.hid (by rw[hE.out,if_pos c3]);have c3e:(H.m.fs.length:Int)≤e.n:=by omega
  refine aM 9 [_,_,_,_,_,_,_,_,_] (Gf ge 1 rfl rfl (Gl ex rfl rfl rfl rfl rfl (Gk rfl (Gk rfl (Gf b 0 rfl rfl (Gf b 0 rfl rfl (Gl hs rfl rfl rfl rfl rfl (Gn rfl rfl rfl rfl (Gb (.bool true) (by simp[go_sem,c3e]) rfl rfl rfl rfl rfl (aC)))))))))) (fun _=>rfl) rfl ?_;intro y W5 o _;have p:=ae hm o;clear o hD hl hi t hC c3 c3e;go_wp2;go_ret;rw[hq.out];exact⟨rfl,p⟩
 rw[if_neg c3] at hE;have c3e:¬(H.m.fs.length:Int)≤e.n:=by omega
 refine aM 9 [_,_,_,_,_,_,_,_,_] (Gf ge 1 rfl rfl (Gl ex rfl rfl rfl rfl rfl (Gk rfl (Gk rfl (Gf b 0 rfl rfl (Gf b 0 rfl rfl (Gl hs rfl rfl rfl rfl rfl (Gn rfl rfl rfl rfl (Gb (.bool false) (by simp[go_sem,c3e]) rfl rfl rfl rfl rfl (aC)))))))))) (fun _=>rfl) rfl ?_;intro y W5 o _;have p:=ae hm o;have hQ:K<H.m.fs.length:=by omega
 replace ex:=ex.ext o;have hp:=hbk.ext p;have h5:=h.below p;have sh:∀ {u:Value} {z:Addr},(∀W,Below w4.heap.size w4 W→W.cell? z=some u)→∀W,Below W5.heap.size W5 W→W.cell? z=some u:=fun hh W hb=>hh W (ae o hb);replace hD:=sh hD;replace hl:=sh hl;replace hi:=sh hi;replace t:=sh t;replace hC:=sh hC;obtain⟨bg,og,kk,hr⟩:=jX fJ (by decide) h5.fr.rd K hQ;have h3:H.m.fs[K]=aN H.ma K:=by have:=yG (m:=H.ma) (f:=K) hQ;have h2:H.m.fs[K]?=some (aN H.ma K):=this;rw[aH hQ] at h2;exact aJ h2
 rw[h3] at hr;have c:Hid (bQ H.ma P.sp n=(let of:=decide (0≤a.fi)&&decide ((aN H.ma K).f=a.fi)&&decide ((aN H.ma K).i=a.ba+n-a.fr)
  if 0≤(aN H.ma K).f∧of=false∨a.sh=true∧of=false∨a.sh=false∧of=true∧e.w=true∨e.w=true∧a.wr=false then 7
  else if (aN H.ma K).f<0∧e.w=true∧1<(aN H.ma K).r then 7 else 0)):=Lib.hid (by rw[hE.out];rfl)
 generalize aN H.ma K=x at *
 clear hE h3 o hs h4 hm c3 sh;go_upto_region 11 with (fail);refine aM 9 [_,_,_,_,_,_,_,_,.v (.pointer (some ⟨bg,og+K*13,none⟩))] (Gk rfl (Gk rfl (Gf b 0 rfl rfl (Gf b 0 rfl rfl (Gl hp (V:=.slice (some ⟨bg,og,none⟩) H.m.fs.length H.cf) (by simp[dh,kk]) rfl rfl rfl rfl (Gf ge 1 rfl rfl (Gl ex (V:=.int .i64 (K:Int)) (by simp[jw,hK]) rfl rfl rfl rfl (Gr (.pointer (some ⟨bg,og+K*13,none⟩)) (fun ρ y W hb hB=>(bF rfl (aF rfl hB) (aF rfl hB) hQ underlying26 frame_size)) rfl rfl (Gk rfl (aC)))))))))) (fun _=>rfl) rfl ?_;intro y W7 hv _;have hJ:=ae p hv;have ex7:=ex.ext hv;have kd:=hbk.ext hJ;have sh:∀ {u:Value} {z:Addr},(∀W,Below W5.heap.size W5 W→W.cell? z=some u)→∀W,Below W7.heap.size W7 W→W.cell? z=some u:=fun hh W hb=>hh W (ae hv hb);replace hD:=sh hD;replace hl:=sh hl;replace hi:=sh hi;replace t:=sh t;replace hC:=sh hC;have hI:=hr.below hv;clear ex hp hv sh hr p h5;have hG:IntKind.i64.wrap (a.ba+n)=a.ba+n:=bM _ (by obtain⟨⟨z1,z2⟩,⟨z3,z4⟩,z5,z6⟩:=hM;omega);have h6:IntKind.i64.wrap (a.ba+n-a.fr)=a.ba+n-a.fr:=bM _ (by obtain⟨⟨z1,z2⟩,⟨z3,z4⟩,z5,z6⟩:=hM;omega);go_upto_region 12 with (fail);refine aM 12 [_,_,_,_,_,_,_,_,_,_,_,.v (.int .i64 (a.ba+n-a.fr))] (Gk rfl (Gk rfl (Gf ba (oa+k*7+6) rfl rfl (Gc (.int .i64 a.ba) (fun W hb=>by simp[hC _ hb]) rfl rfl rfl rfl (Gk rfl (Gb (.int .i64 (a.ba+n)) (by simp[go_sem,hG]) rfl rfl rfl rfl rfl (Gk rfl (Gk rfl (Gf ba (oa+k*7) rfl rfl (Gc (.int .i64 a.fr) (fun W hb=>by simp[hD _ hb]) rfl rfl rfl rfl (Gb (.int .i64 (a.ba+n-a.fr)) (by simp[go_sem,h6]) rfl rfl rfl rfl rfl (Gk rfl (aC))))))))))))) (fun _=>rfl) rfl ?_;intro y W5 o _;have p:=ae hJ o;have ex:=ex7.ext o;have hp:=hbk.ext p;have sh:∀ {u:Value} {z:Addr},(∀W,Below W7.heap.size W7 W→W.cell? z=some u)→∀W,Below W5.heap.size W5 W→W.cell? z=some u:=fun hh W hb=>hh W (ae o hb);replace hl:=sh hl;replace hi:=sh hi;replace t:=sh t;have hr:=hI.below o;clear ex7 kd o sh hI hJ hG h6 hD hC;have hP:∀j u,(qf x)[j]?=some u→∀W,Below W5.heap.size W5 W→W.cell? ⟨bg,og+K*13+j,none⟩=some u:=fun j u hj W hb=>by obtain⟨b',o',e',hc⟩:=(hr.below hb) j u hj;cases e';exact hc
 have hy:=hP 8 _ rfl;have ha:=hP 11 _ rfl;have ht:=hP 12 _ rfl;clear hP hr;go_upto_region 13 with (fail)
 by_cases g1:0≤a.fi
 ·by_cases g2:x.f=a.fi
  ·by_cases g3:x.i=a.ba+n-a.fr
   ·skip;refine aM 25 [_,_,_,_,_,_,_,_,_,_,_,_,_,_,_,_,_,_,_,_,_,_,_,_,.v (.bool true)] (Gk rfl (Gk rfl (Gf ba (oa+k*7+5) rfl rfl (Gc (.int .i64 a.fi) (fun W hb=>by simp[t _ hb]) rfl rfl rfl rfl (Gb (.bool true) (by simp[go_sem,g1]) rfl rfl rfl rfl rfl (Gk rfl (Gk rfl (Gk rfl (Gf bg (og+K*13+11) rfl rfl (Gc (.int .i64 x.f) (fun W hb=>by simp[ha _ hb]) rfl rfl rfl rfl (Gk rfl (Gk rfl (Gf ba (oa+k*7+5) rfl rfl (Gc (.int .i64 a.fi) (fun W hb=>by simp[t _ hb]) rfl rfl rfl rfl (Gb (.bool true) (by simp[go_sem,g2]) rfl rfl rfl rfl rfl (Gk rfl (Gk rfl (Gk rfl (Gk rfl (Gf bg (og+K*13+12) rfl rfl (Gc (.int .i64 x.i) (fun W hb=>by simp[ht _ hb]) rfl rfl rfl rfl (Gk rfl (Gb (.bool true) (by simp[go_sem,g3]) rfl rfl rfl rfl rfl (Gk rfl (Gk rfl (aC)))))))))))))))))))))))))) (fun _=>rfl) rfl ?_;intro y W6 d _;have g:=ae p d;have x8:=hy _ d;have x11:=ha _ d;have a3:=hl _ d;have a4:=hi _ d;have s:=(ex.ext d).cell;unfold jw at s;clear d hl hi t hy ha ht ex hp;have f1:0≤x.f:=by omega
    have f1n:¬x.f<0:=by omega
    replace c:Hid (bQ H.ma P.sp n=if a.sh=false∧e.w=true∨e.w=true∧a.wr=false then 7 else 0):=Lib.hid (by rw[c.out,decide_eq_true g1,decide_eq_true g2,decide_eq_true g3];simp[f1n]);clear g2 g3;cases f2:a.sh with
    | true=>
     rw[f2] at a4;cases f3:e.w with
     | false=>
      rw[f3] at s;have hq:Hid (bQ H.ma P.sp n=0):=Lib.hid (by rw[c.out];simp[*];try omega);clear c;go_wp2;go_ret;rw[hq.out];exact⟨rfl,g⟩
     | true=>
      rw[f3] at s;cases f4:a.wr with
      | false=>
       rw[f4] at a3;have hq:Hid (bQ H.ma P.sp n=7):=Lib.hid (by rw[c.out];simp[*];try omega);clear c;go_wp2;go_ret;rw[hq.out];exact⟨rfl,g⟩
      | true=>
       rw[f4] at a3;have hq:Hid (bQ H.ma P.sp n=0):=Lib.hid (by rw[c.out];simp[*];try omega);clear c;go_wp2;go_ret;rw[hq.out];exact⟨rfl,g⟩
    | false=>
     rw[f2] at a4;cases f3:e.w with
     | true=>
      rw[f3] at s;have hq:Hid (bQ H.ma P.sp n=7):=Lib.hid (by rw[c.out];simp[*];try omega);clear c;go_wp2;go_ret;rw[hq.out];exact⟨rfl,g⟩
     | false=>
      rw[f3] at s;have hq:Hid (bQ H.ma P.sp n=0):=Lib.hid (by rw[c.out];simp[*];try omega);clear c;go_wp2;go_ret;rw[hq.out];exact⟨rfl,g⟩
   skip;refine aM 25 [_,_,_,_,_,_,_,_,_,_,_,_,_,_,_,_,_,_,_,_,_,_,_,_,.v (.bool false)] (Gk rfl (Gk rfl (Gf ba (oa+k*7+5) rfl rfl (Gc (.int .i64 a.fi) (fun W hb=>by simp[t _ hb]) rfl rfl rfl rfl (Gb (.bool true) (by simp[go_sem,g1]) rfl rfl rfl rfl rfl (Gk rfl (Gk rfl (Gk rfl (Gf bg (og+K*13+11) rfl rfl (Gc (.int .i64 x.f) (fun W hb=>by simp[ha _ hb]) rfl rfl rfl rfl (Gk rfl (Gk rfl (Gf ba (oa+k*7+5) rfl rfl (Gc (.int .i64 a.fi) (fun W hb=>by simp[t _ hb]) rfl rfl rfl rfl (Gb (.bool true) (by simp[go_sem,g2]) rfl rfl rfl rfl rfl (Gk rfl (Gk rfl (Gk rfl (Gk rfl (Gf bg (og+K*13+12) rfl rfl (Gc (.int .i64 x.i) (fun W hb=>by simp[ht _ hb]) rfl rfl rfl rfl (Gk rfl (Gb (.bool false) (by simp[go_sem,g3]) rfl rfl rfl rfl rfl (Gk rfl (Gk rfl (aC)))))))))))))))))))))))))) (fun _=>rfl) rfl ?_;intro y W6 d _;have g:=ae p d;have x8:=hy _ d;have x11:=ha _ d;have a3:=hl _ d;have a4:=hi _ d;have s:=(ex.ext d).cell;unfold jw at s;clear d hl hi t hy ha ht ex hp;have hu:(decide (0≤a.fi)&&decide (x.f=a.fi)&&decide (x.i=a.ba+n-a.fr))=false:=by simp[*]
   replace c:Hid (bQ H.ma P.sp n=if 0≤x.f∨a.sh=true∨e.w=true∧a.wr=false then 7 else if x.f<0∧e.w=true∧1<x.r then 7 else 0):=Lib.hid (by rw[c.out,hu];simp);clear hu g2 g3
   by_cases f1:0≤x.f
   ·skip;have hq:Hid (bQ H.ma P.sp n=7):=Lib.hid (by rw[c.out];simp[*];try omega);clear c;go_wp2;go_ret;rw[hq.out];exact⟨rfl,g⟩
   have f1n:x.f<0:=by omega
   cases f2:a.sh with
   | true=>
    rw[f2] at a4;have hq:Hid (bQ H.ma P.sp n=7):=Lib.hid (by rw[c.out];simp[*];try omega);clear c;go_wp2;go_ret;rw[hq.out];exact⟨rfl,g⟩
   | false=>
    rw[f2] at a4;cases f3:e.w with
    | false=>
     rw[f3] at s;have hq:Hid (bQ H.ma P.sp n=0):=Lib.hid (by rw[c.out];simp[*];try omega);clear c;go_wp2;go_ret;rw[hq.out];exact⟨rfl,g⟩
    | true=>
     rw[f3] at s;cases f4:a.wr with
     | false=>
      rw[f4] at a3;have hq:Hid (bQ H.ma P.sp n=7):=Lib.hid (by rw[c.out];simp[*];try omega);clear c;go_wp2;go_ret;rw[hq.out];exact⟨rfl,g⟩
     | true=>
      rw[f4] at a3
      by_cases f5:1<x.r
      ·skip;have hq:Hid (bQ H.ma P.sp n=7):=Lib.hid (by rw[c.out];simp[*];try omega);clear c;go_wp2;go_ret;rw[hq.out];exact⟨rfl,g⟩
      skip;have hq:Hid (bQ H.ma P.sp n=0):=Lib.hid (by rw[c.out];simp[*];try omega);clear c;go_wp2;go_ret;rw[hq.out];exact⟨rfl,g⟩
  skip;refine aM 25 [_,_,_,_,_,_,_,_,_,_,_,_,_,_,_,_,_,_,_,_,_,_,_,_,.v (.bool false)] (Gk rfl (Gk rfl (Gf ba (oa+k*7+5) rfl rfl (Gc (.int .i64 a.fi) (fun W hb=>by simp[t _ hb]) rfl rfl rfl rfl (Gb (.bool true) (by simp[go_sem,g1]) rfl rfl rfl rfl rfl (Gk rfl (Gk rfl (Gk rfl (Gf bg (og+K*13+11) rfl rfl (Gc (.int .i64 x.f) (fun W hb=>by simp[ha _ hb]) rfl rfl rfl rfl (Gk rfl (Gk rfl (Gf ba (oa+k*7+5) rfl rfl (Gc (.int .i64 a.fi) (fun W hb=>by simp[t _ hb]) rfl rfl rfl rfl (Gb (.bool false) (by simp[go_sem,g2]) rfl rfl rfl rfl rfl (Gk rfl (Gk rfl (Gk rfl (Gk rfl (Gk rfl (Gk rfl (Gk rfl (Gk rfl (Gk rfl (Gk rfl (aC)))))))))))))))))))))))))) (fun _=>rfl) rfl ?_;intro y W6 d _;have g:=ae p d;have x8:=hy _ d;have x11:=ha _ d;have a3:=hl _ d;have a4:=hi _ d;have s:=(ex.ext d).cell;unfold jw at s;clear d hl hi t hy ha ht ex hp;have hu:(decide (0≤a.fi)&&decide (x.f=a.fi)&&decide (x.i=a.ba+n-a.fr))=false:=by simp[*]
  replace c:Hid (bQ H.ma P.sp n=if 0≤x.f∨a.sh=true∨e.w=true∧a.wr=false then 7 else if x.f<0∧e.w=true∧1<x.r then 7 else 0):=Lib.hid (by rw[c.out,hu];simp);clear hu g2
  by_cases f1:0≤x.f
  ·skip;have hq:Hid (bQ H.ma P.sp n=7):=Lib.hid (by rw[c.out];simp[*];try omega);clear c;go_wp2;go_ret;rw[hq.out];exact⟨rfl,g⟩
  have f1n:x.f<0:=by omega
  cases f2:a.sh with
  | true=>
   rw[f2] at a4;have hq:Hid (bQ H.ma P.sp n=7):=Lib.hid (by rw[c.out];simp[*];try omega);clear c;go_wp2;go_ret;rw[hq.out];exact⟨rfl,g⟩
  | false=>
   rw[f2] at a4;cases f3:e.w with
   | false=>
    rw[f3] at s;have hq:Hid (bQ H.ma P.sp n=0):=Lib.hid (by rw[c.out];simp[*];try omega);clear c;go_wp2;go_ret;rw[hq.out];exact⟨rfl,g⟩
   | true=>
    rw[f3] at s;cases f4:a.wr with
    | false=>
     rw[f4] at a3;have hq:Hid (bQ H.ma P.sp n=7):=Lib.hid (by rw[c.out];simp[*];try omega);clear c;go_wp2;go_ret;rw[hq.out];exact⟨rfl,g⟩
    | true=>
     rw[f4] at a3
     by_cases f5:1<x.r
     ·skip;have hq:Hid (bQ H.ma P.sp n=7):=Lib.hid (by rw[c.out];simp[*];try omega);clear c;go_wp2;go_ret;rw[hq.out];exact⟨rfl,g⟩
     skip;have hq:Hid (bQ H.ma P.sp n=0):=Lib.hid (by rw[c.out];simp[*];try omega);clear c;go_wp2;go_ret;rw[hq.out];exact⟨rfl,g⟩
 skip;refine aM 25 [_,_,_,_,_,_,_,_,_,_,_,_,_,_,_,_,_,_,_,_,_,_,_,_,.v (.bool false)] (Gk rfl (Gk rfl (Gf ba (oa+k*7+5) rfl rfl (Gc (.int .i64 a.fi) (fun W hb=>by simp[t _ hb]) rfl rfl rfl rfl (Gb (.bool false) (by simp[go_sem,g1]) rfl rfl rfl rfl rfl (Gk rfl (Gk rfl (Gk rfl (Gk rfl (Gk rfl (Gk rfl (Gk rfl (Gk rfl (Gk rfl (Gk rfl (Gk rfl (Gk rfl (Gk rfl (Gk rfl (Gk rfl (Gk rfl (Gk rfl (Gk rfl (Gk rfl (Gk rfl (aC)))))))))))))))))))))))))) (fun _=>rfl) rfl ?_;intro y W6 d _;have g:=ae p d;have x8:=hy _ d;have x11:=ha _ d;have a3:=hl _ d;have a4:=hi _ d;have s:=(ex.ext d).cell;unfold jw at s;clear d hl hi t hy ha ht ex hp;have hu:(decide (0≤a.fi)&&decide (x.f=a.fi)&&decide (x.i=a.ba+n-a.fr))=false:=by simp[*]
 replace c:Hid (bQ H.ma P.sp n=if 0≤x.f∨a.sh=true∨e.w=true∧a.wr=false then 7 else if x.f<0∧e.w=true∧1<x.r then 7 else 0):=Lib.hid (by rw[c.out,hu];simp);clear hu g1
 by_cases f1:0≤x.f
 ·skip;have hq:Hid (bQ H.ma P.sp n=7):=Lib.hid (by rw[c.out];simp[*];try omega);clear c;go_wp2;go_ret;rw[hq.out];exact⟨rfl,g⟩
 have f1n:x.f<0:=by omega
 cases f2:a.sh with
 | true=>
  rw[f2] at a4;have hq:Hid (bQ H.ma P.sp n=7):=Lib.hid (by rw[c.out];simp[*];try omega);clear c;go_wp2;go_ret;rw[hq.out];exact⟨rfl,g⟩
 | false=>
  rw[f2] at a4;cases f3:e.w with
  | false=>
   rw[f3] at s;have hq:Hid (bQ H.ma P.sp n=0):=Lib.hid (by rw[c.out];simp[*];try omega);clear c;go_wp2;go_ret;rw[hq.out];exact⟨rfl,g⟩
  | true=>
   rw[f3] at s;cases f4:a.wr with
   | false=>
    rw[f4] at a3;have hq:Hid (bQ H.ma P.sp n=7):=Lib.hid (by rw[c.out];simp[*];try omega);clear c;go_wp2;go_ret;rw[hq.out];exact⟨rfl,g⟩
   | true=>
    rw[f4] at a3
    by_cases f5:1<x.r
    ·skip;have hq:Hid (bQ H.ma P.sp n=7):=Lib.hid (by rw[c.out];simp[*];try omega);clear c;go_wp2;go_ret;rw[hq.out];exact⟨rfl,g⟩
    skip;have hq:Hid (bQ H.ma P.sp n=0):=Lib.hid (by rw[c.out];simp[*];try omega);clear c;go_wp2;go_ret;rw[hq.out];exact⟨rfl,g⟩
def isK (i:Int) (c:Cc):Bool:=decide (c.k=i)
theorem LF (c:Cc) (i:Int) (g:Nat) (w:World) (hg:aB w g #[.int .i64 i] 3) :
  Calls Tryz.prog 71 #[.agg (Ao c),.pointer (some ⟨g,0,none⟩)] w fun r w'=>r = .returned (.bool (isK i c))∧Below w.heap.size w w':=by
 go_enter func71,ntmps71;go_upto_region 1 with (fail);refine gB (fun W=>Code.wp _ _ _ _ W) fun W0 a b d => ?_;clear d;have e:=(hg.ext a).cell 0;have f:=b.cell;have q2:(Ao c)[2]?=some (.int .i64 c.k):=rfl;go_wp2;go_ret;exact⟨bK (by unfold isK;rfl),a⟩
theorem TB (l:List Cc) (a:Option Addr) (c:Nat) (w:World) (hrd:dP w a (l.flatMap mD)) (hl:l.length≤9223372036854775807) (g:Nat) (kk:Int) (hg:aB w g #[.int .i64 kk] 3) :
  Calls Tryz.prog 113 #[.slice a l.length c,.func (.func 71) #[] #[.pointer (some ⟨g,0,none⟩)]] w fun e w'=>e = .returned (.int .i64 (idx (isK kk) l))∧Below w.heap.size w w':=by
 go_enter func113,ntmps113;go_wp2
 go_loopw [8] (fun i wr => ∃k:Nat,k≤l.length∧i = .int .i64 k∧Below w.heap.size w wr∧∀i (h:i<l.length),i<k→(isK kk) l[i]=false) (fun i _=>l.length-(intOf i).toNat)
 case atStart=>exact⟨0,aV _,rfl,Below.refl _ _,fun i _ h=>absurd h (dV _)⟩
 case round=>
  obtain⟨k,hk,rfl,j,n⟩:=hrel;have hp:=Lib.hid n;clear n
  by_cases hlt:k<l.length
  ·obtain⟨b,off,rfl,p⟩:=zW (hrd.below j) k hlt
   go_wp2_with (refine ax _ _ rfl b (off+k*3) rfl rfl _ p _ underlying106 rfl cached_size ?_)
   refine (LF l[k] kk g _ (hg.ext j)).mono ?_;rintro e w2 ⟨rfl,o⟩;have f:=ae j o;clear o;cases hpk:(isK kk) l[k]
   ·have m:=Lib.hid hpk;clear hpk;go_wp2;go_roundw
    case rel=>exact⟨k+1,by omega,by go_num,f,lN hp.out hlt m.out⟩
    case measure=>simp[intOf];omega
   have d:=Lib.hid (tN (isK kk) l k hlt hp.out hpk);clear hpk;go_wp2;go_ret;exact⟨aT d.out.symm,f⟩
  have d:=Lib.hid (lc (isK kk) l fun i h=>hp.out i h (by omega));go_wp2;go_ret;exact⟨aT d.out.symm,j⟩
theorem RY (l:List Cc) (a:Option Addr) (c:Nat) (w:World) (hrd:dP w a (l.flatMap mD)) (hl:l.length≤9223372036854775807) (g:Nat) (kk:Int) (hg:aB w g #[.int .i64 kk] 3) :
  Calls Tryz.prog 70 #[.slice a l.length c,.func (.func 71) #[] #[.pointer (some ⟨g,0,none⟩)]] w fun e w'=>e = .returned (.bool (l.any (isK kk)))∧Below w.heap.size w w':=by
 go_enter func70,ntmps70
 go_wp2_with fail
 refine (TB l a c _ hrd hl g kk hg).mono ?_;rintro e w2 ⟨rfl,b⟩;go_wp2;go_ret;exact⟨bK (nE _ _),b⟩
theorem KW (l m:List Int) (a a' : Option Addr) (c c' : Nat) (w:World) (hrd:dP w a (l.map fT)) (hrd' : dP w a' (m.map fT)) (hl:l.length≤9223372036854775807) (hl' : m.length≤9223372036854775807) :
  Calls Tryz.prog 72 #[.slice a l.length c,.slice a' m.length c'] w fun e w'=>e = .returned (.bool (l==m))∧Below w.heap.size w w':=by
 go_enter func72,ntmps72
 by_cases hlm:l.length=m.length
 ·have f:((l.length:Int) != (m.length:Int))=false:=by simp[hlm]
  go_wp2
  go_loopw [13] (fun i wr => ∃k:Nat,k≤l.length∧i = .int .i64 k∧Below w.heap.size w wr∧∀i (h:i<l.length),i<k→l[i]=m[i]'(by omega)) (fun i _=>l.length-(intOf i).toNat)
  case atStart=>exact⟨0,aV _,rfl,Below.refl _ _,fun i _ h=>absurd h (dV _)⟩
  case round=>
   obtain⟨k,hk,rfl,d,hp⟩:=hrel
   by_cases hlt:k<l.length
   ·obtain⟨b,off,rfl,hc⟩:=jv (hrd.below d) k hlt;obtain⟨b',off',rfl,g⟩:=jv (hrd'.below d) k (by omega);have k1:(k:Int)<(m.length:Int):=by omega
    go_wp2_with fail
    go_quiet (fail)
    by_cases he:l[k]=m[k]'(by omega)
    ·have hz:(l[k] != m[k]'(by omega))=false:=by simp[he]
     go_wp2;go_roundw
     case rel=>exact⟨k+1,by omega,by go_num,below_drewN d _,upto hp hlt he⟩
     case measure=>simp[intOf];omega
    have hz:(l[k] != m[k]'(by omega))=true:=by simp[he]
    go_wp2;go_ret;exact⟨bK (Qu k hlt (by omega) he).symm,below_drewN d _⟩
   go_wp2
   all_goals
    go_ret;exact⟨bK (Qq hlm fun i h=>hp i h (by omega)).symm,d⟩
 have f:((l.length:Int) != (m.length:Int))=true:=by simp;omega
 go_wp2;go_ret;refine⟨bK ?_,Below.refl _ _⟩;symm;rw[beq_eq_false_iff_ne];rintro rfl;exact hlm rfl
theorem mK (n:Nat) (l:List Int):(kF n l).length=n:=by simp[kF]
theorem nH (n:Nat) (l:List Int) (i:Nat) (hi:i<n):(kF n l)[i]?=some (cnt l i:Int):=by simp[kF,hi]
theorem JF (l:List Int) (k i:Int):cnt (l++[k]) i=cnt l i+(if k=i then 1 else 0):=by
 rw[Ai];congr 1;unfold cnt;rw[nJ,List.countP_nil]
 by_cases h:k=i
 ·simp[h]
 ·simp[h]
theorem Eh (n:Nat) (l:List Int) (k:Nat) (hk:k<n):(kF n l).set k ((cnt l k:Int)+1)=kF n (l++[(k:Int)]):=by
 apply mR;intro i;rw[kW,mK]
 by_cases e:k=i
 ·subst e;rw[if_pos rfl,if_pos hk,nH _ _ _ hk,JF,if_pos rfl];simp
 rw[if_neg e]
 by_cases hi:i<n
 ·rw[nH _ _ _ hi,nH _ _ _ hi,JF,if_neg (by omega)];rfl
 ·rw[dI (by rw[mK];omega),dI (by rw[mK];omega)]
theorem Kw (n:Nat):kF n []=List.replicate n 0:=by
 unfold kF cnt;apply mR;intro i;rw[jO,nI]
 by_cases hi:i<n
 ·rw[sG hi,if_pos hi];rfl
 ·rw[if_neg hi,dI (by simp;omega)];rfl
theorem IK (l:List Int) (i:Int):cnt l i≤l.length:=xG
def IB (w:World) (g:Nat) (l:List Int):Prop:=aB w g (l.map fT).toArray 3
theorem Gh (n:Nat):madeCells #[.int .i64 0] n=((List.replicate n (0:Int)).map fT).toArray:=by
 apply Array.ext
 ·simp[size_madeCells]
 intro i h1 h2;simp[madeCells,fT,Nat.mod_one]
theorem IB.cell {l:List Int} (h:IB w g l) {v:Int} (hv:l[k]?=some v):w.cell? ⟨g,k,none⟩=some (.int .i64 v):=by
 have:=aB.cell h k;rw[this];simp[hv,fT]
theorem IB.set {l:List Int} {v:Int} (hk:k<l.length):bB (l.map fT).toArray k [.int .i64 v]=((l.set k v).map fT).toArray:=by
 show ((l.map fT).toArray).setIfInBounds k (.int .i64 v)=_;rw[CU];simp[fT]
theorem yM {l r:List Int} (h:∀x∈l,x=0):firstE (l++r)=firstE r:=by
 induction l with
 | nil=>rfl
 | cons a l ih=>
  have h0:=h a gV;rw[He];rw[firstE,h0];simp only[if_true,ne_eq,not_true_eq_false,if_false];exact ih fun x hx=>h x (ji _ hx)
theorem PW {x:Int} {r:List Int} (h:x≠0):firstE (x::r)=x:=by
 rw[firstE];simp[h]
theorem Nl {s:Sp} {n:Int} (hs:m.sp[p]?=some s) (hn:(aP s.tb)[j]?=some n) (h1:∀t∈m.sp.take p,∀i∈aP t.tb,bQ m t i=0) (h2:∀i∈(aP s.tb).take j,bQ m s i=0) (hne:bQ m s n≠0):mH m=bQ m s n:=by
 unfold mH;have e1:m.sp=m.sp.take p++s::m.sp.drop (p+1):=by rw[←drop_at hs,qp]
 have e2:aP s.tb=(aP s.tb).take j++n::(aP s.tb).drop (j+1):=by rw[←drop_at hn,qp]
 rw[e1,eY,yM (fun x hx => ?_),lX,e2,jb,jG,yM (fun x hx => ?_),bP,He,PW hne]
 ·obtain⟨i,hi,rfl⟩:=gW.1 hx;exact h2 i hi
 obtain⟨t,ht,hx⟩:=jP.1 hx;obtain⟨i,hi,rfl⟩:=gW.1 hx;exact h1 t ht i hi
theorem KY (h:∀t∈m.sp,∀i∈aP t.tb,bQ m t i=0):mH m=0:=by
 unfold mH;rw[←mY (m.sp.flatMap _),yM (fun x hx => ?_)]
 ·rfl
 obtain⟨t,ht,hx⟩:=jP.1 hx;obtain⟨i,hi,rfl⟩:=gW.1 hx;exact h t ht i hi
theorem SS {s:Sp} {n:Int} (h:bQ m s n=0):((dH s.tb n).k=2→(dH s.tb n).n<m.sl.length)∧((dH s.tb n).k≠2→(dH s.tb n).n<m.m.fs.length):=by
 unfold bQ at h;split at h
 ·cases h
 simp only at h;split at h
 ·rename_i h2;split at h
  ·cases h
  rename_i h3;exact⟨fun _=>by omega,fun h'=>absurd h2 h'⟩
 rename_i h2;split at h
 ·cases h
 ·exact⟨fun h'=>absurd h' h2,fun _=>by omega⟩
def lJ (m:Ma) (p:Nat) (l:List Int):List Int:=m.ca.map Cc.k++(m.sp.take p).flatMap (fun s=>nD s.tb (aP s.tb))++l
def jN (m:Ma) (p:Nat) (l:List Int):List Int:=(m.sp.take p).flatMap (fun s=>swapT s.tb (aP s.tb))++l
theorem Qs (t:Tb) (l:List Int) (n:Int):nD t (l++[n])=nD t l++(if (dH t n).k=1 then [(dH t n).n] else []):=by
 unfold nD;rw[uT,jb];congr 1
 by_cases h:(dH t n).k=1
 ·simp[h]
 ·simp[h]
theorem OW (t:Tb) (l:List Int) (n:Int):swapT t (l++[n])=swapT t l++(if (dH t n).k=1 then [] else [(dH t n).n]):=by
 unfold swapT;rw[uT,jb];congr 1
 by_cases h:(dH t n).k=1
 ·simp[h]
 ·simp[h]
theorem LC {s:Sp} (hs:m.sp[p]?=some s):lJ m p (nD s.tb (aP s.tb))=lJ m (p+1) []:=by
 unfold lJ;rw[take_at hs,eY,mY,jG];simp
theorem Jp {s:Sp} (hs:m.sp[p]?=some s):jN m p (swapT s.tb (aP s.tb))=jN m (p+1) []:=by
 unfold jN;rw[take_at hs,eY,mY];simp
theorem Ps (m:Ma):lJ m m.sp.length []=rP m:=by unfold lJ rP;rw[xQ,mY]
theorem Lg (m:Ma):jN m m.sp.length []=pQ m:=by unfold jN pQ;rw[xQ,mY]
theorem Ns (m:Ma) (p:Nat) (l:List Int) (k:Int):lJ m p (l++[k])=lJ m p l++[k]:=by unfold lJ;rw[jG,jG,jG]
theorem Km (m:Ma) (p:Nat) (l:List Int) (k:Int):jN m p (l++[k])=jN m p l++[k]:=by unfold jN;rw[jG]
theorem Bi (t:Tb) (l:List Int):(nD t l).length≤l.length:=by unfold nD;rw[fo];exact zR _ _
theorem GI (t:Tb) (l:List Int):(swapT t l).length≤l.length:=by unfold swapT;rw[fo];exact zR _ _
theorem flat_len {α:Type} (g:α→List Int) (c:Nat) (h:∀x,(g x).length≤c):∀l:List α,(l.flatMap g).length≤c*l.length
 | []=>by simp
 | x::l=>by have h1:=flat_len g c h l;have h2:=h x;rw[lX,jH,pq,Nat.mul_succ];omega
theorem vw (t:Tb):(aP t).length≤64:=qO t 64
theorem PG (m:Ma) (p:Nat) (l:List Int):(lJ m p l).length≤m.ca.length+64*m.sp.length+l.length:=by
 unfold lJ;have h1:=flat_len (fun s:Sp=>nD s.tb (aP s.tb)) 64 (fun s=>bi (Bi _ _) (vw _)) (m.sp.take p);have h2:(m.sp.take p).length≤m.sp.length:=by rw[lC];omega
 simp only[jH,fo];omega
theorem Pk (h:vJ m) (p:Nat) (l:List Int) (K:Int):cnt (lJ m p l) K≤1+64*m.sp.length+l.length:=by
 unfold lJ;rw[Ai,Ai];have h1:=flat_len (fun s:Sp=>nD s.tb (aP s.tb)) 64 (fun s=>bi (Bi _ _) (vw _)) (m.sp.take p);have h2:(m.sp.take p).length≤m.sp.length:=by rw[lC];omega
 have h3:cnt (m.ca.map Cc.k) K=vY m K:=by unfold cnt vY;rw[uI];rfl
 have h4:=Sb h K;have h5:=IK ((m.sp.take p).flatMap fun s=>nD s.tb (aP s.tb)) K;have h6:=IK l K;omega
theorem Ni (m:Ma) (p:Nat) (l:List Int):(jN m p l).length≤64*m.sp.length+l.length:=by
 unfold jN;have h1:=flat_len (fun s:Sp=>swapT s.tb (aP s.tb)) 64 (fun s=>bi (GI _ _) (vw _)) (m.sp.take p);have h2:(m.sp.take p).length≤m.sp.length:=by rw[lC];omega
 simp only[jH];omega
theorem NN (w:World) (c1 c2:Array Value) (T1 T2:TypeId):Below w.heap.size w ((w.alloc (.cells c1 T1)).alloc (.cells c2 T2)).drew∧aB ((w.alloc (.cells c1 T1)).alloc (.cells c2 T2)).drew w.heap.size c1 T1∧aB ((w.alloc (.cells c1 T1)).alloc (.cells c2 T2)).drew (w.heap.size+1) c2 T2:=by
 have e:(w.alloc (.cells c1 T1)).heap.size=w.heap.size+1:=zk _;have h1:Below w.heap.size w ((w.alloc (.cells c1 T1)).alloc (.cells c2 T2)):=((Below.refl _ _).alloc (ay _) _).alloc (by omega) _;have h2:aB ((w.alloc (.cells c1 T1)).alloc (.cells c2 T2)) w.heap.size c1 T1:=(aB.new w c1 T1).ext ((Below.refl _ _).alloc (ay _) _);have h3:aB ((w.alloc (.cells c1 T1)).alloc (.cells c2 T2)) (w.heap.size+1) c2 T2:=by rw[←e];exact aB.new _ _ _
 exact⟨⟨h1.os,h1.tape,h1.output,h1.size,h1.block⟩,h2,h3⟩
theorem int_one:(Tryz.prog.info? 3).map (·.size)=some 1:=by kernel_rfl
theorem int_inf:(Tryz.prog.info? 3).map (fun i=>(i.zero,i.size,i.bytes))=some (some (.int .i64 0),1,8):=by kernel_rfl
theorem DX {y:Operand} {k:IntKind} (ho:o.op = .indexAddr t x y) (hx:ρ x = .slice (some ⟨b,0,none⟩) n c) (hy:ρ y = .int k (i:Int)) (hi:i<n)
 (hu:P.underlying t=some (.slice e)) (hs:(P.info? e).map (·.size)=some 1):(execOp ρ o).run P w = .ok (.value (.pointer (some ⟨b,i,none⟩))) w:=by
 have:=bF (w:=w) ho hx hy hi hu hs;rw[this];simp
def EX (m:Ma) (i:Nat):Bool:=decide ((rH m i).r=cnt (rP m) i)&&(decide ((rH m i).f<0)||m.ca.any fun c=>decide (c.k=i))
theorem KJ (m:Ma):countB m=((List.range m.m.fs.length).all (EX m)&&decide (m.sl=kF m.sl.length (pQ m))):=rfl
theorem KN (h:countB m=true) (k:Nat) (hk:k<m.m.fs.length):EX m k=true:=by
 rw[KJ,dS,dK] at h;exact h.1 k (dE.2 hk)
theorem mE (H:MH) (w:World) (h:BR w H) :
  Calls Tryz.prog 37 #[.agg (dh H)] w fun r w'=>r = .returned (.int .i64 (jK H.ma))∧Below w.heap.size w w':=by
 have gO:H.m.fs.length*8≤281474976710656∧H.sl.length*8≤281474976710656∨¬ic H.ma=0:=by
  by_cases e:ic H.ma=0
  ·have hp:=(wD.1 e).1;have h1:=((eH _).1 hp.fr).1;have h2:=ja hp.sl;have qd : H.m.fs.length≤40:=h1;have qc : H.sl.length≤60:=h2;exact .inl ⟨by omega,by omega⟩
  ·exact .inr e
 go_enter func37,ntmps37;go_upto_region 1 with (fail);refine gB (fun W=>Code.wp _ _ _ _ W) fun w1 kh bx1 gI => ?_;have h1:=h.below kh;have bx:aB w1 w.heap.size (dh H) 41:=bx1;clear bx1 gI
 go_wp2_with fail
 refine (OQ H w.heap.size _ bx h1).mono ?_;rintro r w2 ⟨rfl,kU⟩;have h5:=ae kh kU;have bx2:=bx.ext kU;clear bx h1 kh kU
 by_cases e1:ic H.ma=0
 rotate_left
 ·have hq:Hid (jK H.ma=ic H.ma):=Lib.hid (by unfold jK;rw[if_pos e1]);generalize ic H.ma=E at *
  go_wp2;go_ret;rw[hq.out];exact⟨rfl,h5⟩
 rw[e1]
 go_wp2_with fail
 refine (Md H w.heap.size _ bx2 (h.below h5)).mono ?_;rintro r w3 ⟨rfl,kT⟩;have hR:=ae h5 kT;have bx3:=bx2.ext kT;clear bx2 h5 kT
 by_cases e2:cachedE H.ma=0
 rotate_left
 ·have hq:Hid (jK H.ma=cachedE H.ma):=Lib.hid (by unfold jK;rw[if_neg (by rw[e1];simp),if_pos e2]);generalize cachedE H.ma=E at *
  go_wp2;go_ret;rw[hq.out];exact⟨rfl,hR⟩
 rw[e2];have kj:=(wD.1 e1).1;have n1:H.m.fs.length≤40:=((eH _).1 kj.fr).1;have n2:H.sl.length≤60:=ja kj.sl;have n3:H.sp.length≤4:=by have:=kj.spl;rw[ER] at this;exact this
 have kA:=Lib.hid kj;have kx:=Lib.hid (zM.1 e2);have kG:Hid (jK H.ma=if mH H.ma≠0 then mH H.ma else if countB H.ma=true then 0 else 7):=Lib.hid (by unfold jK;rw[if_neg (by rw[e1];simp),if_neg (by rw[e2];simp)]);clear e1 e2 kj gO;go_upto_region 7 with (fail);have l:=bx3.cell;unfold dh at l;have kw:=fun ob=>(bx3.ext ((Below.refl _ _).alloc (ay _) ob)).cell;unfold dh at kw;have ga:=run_make_row' (P:=Tryz.prog) 29 3 (.int .i64 0) 8 underlying29 int_inf rfl .i64 .i64 H.m.fs.length (by omega) (by omega);have k9:=run_make_row' (P:=Tryz.prog) 29 3 (.int .i64 0) 8 underlying29 int_inf rfl .i64 .i64 H.sl.length (by omega) (by omega)
 go_cut [5,6] (fun s5 s6 wx => ∃gh gs,s5 = .slice (some ⟨gh,0,none⟩) H.m.fs.length H.m.fs.length∧s6 = .slice (some ⟨gs,0,none⟩) H.sl.length H.sl.length∧gh≠gs∧w3.heap.size≤gh∧w3.heap.size≤gs∧Below w3.heap.size w3 wx∧aB wx gh (madeCells #[.int .i64 0] H.m.fs.length) 3∧aB wx gs (madeCells #[.int .i64 0] H.sl.length) 3)
 case first=>
  go_region
  all_goals (go_wp2_with fail;go_meet)
  ·obtain⟨z1,z2,z3⟩:=NN w3 (madeCells #[.int .i64 0] H.m.fs.length) (madeCells #[.int .i64 0] H.sl.length) 3 3;exact⟨_,_,rfl,rfl,by omega,by omega,by omega,z1,z2,z3⟩
  obtain⟨z1,z2,z3⟩:=NN w3 (madeCells #[.int .i64 0] H.sl.length) (madeCells #[.int .i64 0] H.m.fs.length) 3 3;exact⟨_,_,rfl,rfl,by omega,by omega,by omega,z1,z3,z2⟩
 case rest=>
  obtain⟨gh,gs,rfl,rfl,kL,gk,gf,kS,d,b⟩:=hcut;have ky:=ae hR kS;have bx4:=bx3.ext kS;have kZ:w.heap.size≤gh:=bi hR.size gk;have gG:w.heap.size≤gs:=bi hR.size gf;have gq:w.heap.size≠gh:=by have:=bx3.lt;omega
  have gT:w.heap.size≠gs:=by have:=bx3.lt;omega
  have kD:IB wc gh (kF H.m.fs.length ((H.ca.take 0).map Cc.k)):=by rw[List.take_zero,bT,Kw];unfold IB;rw[←Gh];exact d
  have kB:IB wc gs (kF H.sl.length []):=by rw[Kw];unfold IB;rw[←Gh];exact b
  clear l kw ga k9 d b kS bx3 hR gk gf;have l:=bx4.cell;unfold dh at l;go_upto_region 9 with (fail);clear l;have qb:=h.ca.le;have gS:=h.ca.mx;unfold maxLen at gS
  go_loopw [37] (fun i wr => ∃(k:Nat),k≤H.ca.length∧i = .int .i64 k∧Below w.heap.size w wr∧aB wr w.heap.size (dh H) 41∧IB wr gh (kF H.m.fs.length ((H.ca.take k).map Cc.k))∧IB wr gs (kF H.sl.length [])) (fun i _=>H.ca.length-(intOf i).toNat)
  case atStart=>exact⟨0,aV _,rfl,ky,bx4,kD,kB⟩
  case round=>
   clear ky bx4 kD kB;obtain⟨k,hk,rfl,o,bx,d,b⟩:=hrel
   by_cases hkl:k<H.ca.length
   ·obtain⟨bc,oc,gW,hf⟩:=jX pE (by decide) (h.below o).ca.rd k hkl;have kN:(k:Int)<(H.ca.length:Int):=by omega
    have g4:0≤H.ca[k].k∧H.ca[k].k<H.m.fs.length:=kx.out.lt _ (dN hkl);have h7:Hid ((H.ca.take (k+1)).map Cc.k=(H.ca.take k).map Cc.k++[H.ca[k].k]):=Lib.hid (by rw[take_at (aH hkl),jb];rfl);have kM:((H.ca.take k).map Cc.k).length≤k:=by rw[fo,lC];omega
    generalize H.ca[k]=c at *
    obtain⟨K,gp⟩:∃K:Nat,c.k=K:=⟨c.k.toNat,by omega⟩;have hy:K<H.m.fs.length:=by omega
    rw[gp] at h7;rw[gW];generalize (H.ca.take k).map Cc.k=L at *
    go_wp2_with (first | (refine ax _ _ rfl bc (oc+k*3) rfl rfl _ hf _ underlying106 rfl cached_size ?_) | (refine aI rfl _ _ _ rfl (Ao c) rfl rfl rfl cached_size (vL c) ?_))
    intro w5 s cx;have hI:=ae o s;have bx5:=bx.ext s;have hM:IB w5 gh (kF H.m.fs.length L):=d.ext s;have hW:IB w5 gs (kF H.sl.length []):=b.ext s;clear o bx d b hf s;have kQ:=cx.cell;unfold Ao at kQ;rw[gp] at kQ;have hZ:=hM.cell (nH H.m.fs.length L K hy);have kv:=IK L K;have ka:IntKind.i64.wrap ((cnt L K:Int)+1)=(cnt L K:Int)+1:=bM _ (by omega);have gu:(K:Int)<(H.m.fs.length:Int):=by omega
    go_wp2_with (refine aA rfl _ _ _ rfl gh K _ [.int .i64 ((cnt L K:Int)+1)] rfl rfl rfl _ _ hM (by simp[mK];omega) int_one (fun u hu=>by cases bv.1 hu;rfl) ?_)
    intro w6 hh hl;rw[IB.set (by rw[mK];exact hy),Eh _ _ _ hy,←h7.out] at hh;have q:=hI.grown hl hI.size (fun k hk=>by cases hk;exact kZ);have bx6:=bx5.grown hl (fun e=>gq (aJ e).symm);have hc:IB w6 gs (kF H.sl.length []):=aB.grown hW hl (fun e=>kL (aJ e));clear hI bx5 hW hM kQ hZ cx hl ka;go_wp2;go_roundw
    case rel=>exact⟨k+1,by omega,by go_num,q,bx6,hh,hc⟩
    case measure=>simp[intOf];omega
   have kN:¬(k:Int)<(H.ca.length:Int):=by omega
   rw[iN (by omega)] at d;have kE:IB wr gh (kF H.m.fs.length (lJ H.ma 0 [])):=by
    have e:lJ H.ma 0 []=H.ca.map Cc.k:=by show H.ca.map Cc.k++[]++[]=_;rw[mY,mY]
    rw[e];exact d
   have kC:IB wr gs (kF H.sl.length (jN H.ma 0 [])):=b;clear d b;have l:=bx.cell;unfold dh at l;go_upto_region 14 with (fail);clear l
   go_loopw [52] (fun i wr => ∃(p:Nat),p≤H.sp.length∧i = .int .i64 p∧Below w.heap.size w wr∧aB wr w.heap.size (dh H) 41∧IB wr gh (kF H.m.fs.length (lJ H.ma p []))∧IB wr gs (kF H.sl.length (jN H.ma p []))∧Hid (∀t∈H.ma.sp.take p,∀i∈aP t.tb,bQ H.ma t i=0)) (fun i _=>H.sp.length-(intOf i).toNat)
   case atStart=>exact⟨0,aV _,rfl,o,bx,kE,kC,Lib.hid fun t ht=>by simp at ht⟩
   case round=>
    clear o bx kE kC;obtain⟨p,hp,rfl,o,bx,d,b,hz⟩:=hrel
    by_cases hpl:p<H.sp.length
    ·obtain⟨bs,os,P,kV,hP,hf⟩:=zy (h.below o).sp.rd p hpl;have ha:=xE (h.below o) hP;have gM:(p:Int)<(H.sp.length:Int):=by omega
     have kk:H.ma.sp[p]?=some P.sp:=by show (H.sp.map PS.sp)[p]?=_;rw[jO,hP];rfl
     have gr:(bI P.ar).1=0:=kA.out.ar P.sp (bO kk);have kn:cB P.tb=0:=kA.out.tb P.sp (bO kk);have hG:=Lib.hid kk;have gt:=Lib.hid hP;have l:=bx.cell;unfold dh at l;rw[kV] at l;clear kk hP
     go_wp2_with (refine ax _ _ rfl bs (os+p*10+2) rfl rfl _ (uD hf 2 8) _ underlying53 tab_agg tab_size ?_)
     refine (yx P.tb (nP P.ts) _ ha.tb).mono ?_;rintro r w5 ⟨v5,rfl,kJ,s⟩;obtain⟨a5,c5,rfl,g1,g0,_,gK⟩:=kJ.rd;have gb:gh<wr.heap.size∧gs<wr.heap.size:=⟨aB.lt d,aB.lt b⟩;have hI:=ae o s;have bx5:=bx.ext s;have hM:IB w5 gh (kF H.m.fs.length (lJ H.ma p (nD P.tb ((aP P.tb).take 0)))):=d.ext s;have hW:IB w5 gs (kF H.sl.length (jN H.ma p (swapT P.tb ((aP P.tb).take 0)))):=b.ext s;have kr:=hf.below s;have h9:=ha.below s;have kY:=Lib.hid gb;clear l o bx d b hf ha s gK;have k2:=Lib.hid (Rx P.tb);have gL:=vw P.tb;go_upto_region 18 with (fail)
     go_loopw [65] (fun i wr' => ∃(j:Nat),j≤(aP P.tb).length∧i = .int .i64 j∧Below w.heap.size w wr'∧aB wr' w.heap.size (dh H) 41∧IB wr' gh (kF H.m.fs.length (lJ H.ma p (nD P.tb ((aP P.tb).take j))))∧IB wr' gs (kF H.sl.length (jN H.ma p (swapT P.tb ((aP P.tb).take j))))∧Own wr' wr.heap.size 3 1 (.slice a5 (aP P.tb).length c5) (aP P.tb).length ((aP P.tb).map fT)∧dP wr' (some ⟨bs,os+p*10,none⟩) (sW P)∧P.good wr'∧Hid (∀i∈(aP P.tb).take j,bQ H.ma P.sp i=0)) (fun i _=>(aP P.tb).length-(intOf i).toNat)
     case atStart=>exact⟨0,aV _,rfl,hI,bx5,hM,hW,kJ,kr,h9,Lib.hid fun i hi=>by simp at hi⟩
     case round=>
      clear hI bx5 hM hW kJ kr h9;obtain⟨j,hj,rfl,o,bx,d,b,ho,hf,ha,h6⟩:=hrel;obtain⟨gg,g5⟩:=kY.out
      by_cases hjl:j<(aP P.tb).length
      ·have gQ:(j:Int)<((aP P.tb).length:Int):=by omega
       obtain⟨_,_,e9,_,_,_,k1⟩:=ho.rd;cases e9;have kK:(aP P.tb)[j]?=some (aP P.tb)[j]:=aH hjl;have gN:=k2.out _ (dN hjl);have k7:(dH P.tb (aP P.tb)[j]).k≠0:=(oJ.1 (dN hjl)).2;obtain⟨bp,op,k3,gR⟩:=jv k1 j hjl;generalize hN:(aP P.tb)[j]=n at *
       have h7:Hid ((aP P.tb).take (j+1)=(aP P.tb).take j++[n]):=Lib.hid (take_at kK);have k8:=Lib.hid kK;have ks:=Lib.hid k3;have ku:=(dx _).1 (rC kn n);rw[k3];clear kK hN k1
       go_wp2_with fail
       refine (Mq H P n w.heap.size bs (os+p*10) _ bx (h.below o) hf ha gr kn gN).mono ?_;rintro r w6 ⟨rfl,hh⟩;have q:=ae o hh;have bx6:=bx.ext hh;have z:=aB.ext d hh;have hc:=aB.ext b hh;have k6:=ho.below hh;have kc:=hf.below hh;have hl:=ha.below hh;clear o bx d b ho hf ha hh gR
       by_cases hE:bQ H.ma P.sp n=0
       rotate_left
       ·have hq:Hid (jK H.ma=bQ H.ma P.sp n):=Lib.hid (by have:=Nl hG.out k8.out hz.out h6.out hE;rw[kG.out,this,if_pos hE]);generalize bQ H.ma P.sp n=E at *
        go_wp2;go_ret;rw[hq.out];exact⟨rfl,q⟩
       have gc:=SS hE;have hO:Hid (∀i∈(aP P.tb).take (j+1),bQ H.ma P.sp i=0):=Lib.hid fun i hi=>by
        rw[h7.out] at hi;rcases fO.1 hi with hi|hi
        ·exact h6.out i hi
        ·rw[bv.1 hi];exact hE
       rw[hE];clear h6 hE
       go_wp2_with (refine ax _ _ rfl bs (os+p*10+2) rfl rfl _ (uD kc 2 8) _ underlying53 tab_agg tab_size ?_)
       refine (zl P.tb (nP P.ts) n _ hl.tb).mono ?_;rintro r w7 ⟨rfl,hU⟩;have h4:((dH P.tb n).k=2→(dH P.tb n).n<H.sl.length)∧((dH P.tb n).k≠2→(dH P.tb n).n<H.m.fs.length):=gc;have k4:nD P.tb ((aP P.tb).take (j+1))=nD P.tb ((aP P.tb).take j)++(if (dH P.tb n).k=1 then [(dH P.tb n).n] else []):=by rw[h7.out,Qs]
       have k0:swapT P.tb ((aP P.tb).take (j+1))=swapT P.tb ((aP P.tb).take j)++(if (dH P.tb n).k=1 then [] else [(dH P.tb n).n]):=by rw[h7.out,OW]
       have qa:=PG H.ma p (nD P.tb ((aP P.tb).take j));have g3:=Bi P.tb ((aP P.tb).take j);have g9:=Ni H.ma p (swapT P.tb ((aP P.tb).take j));have g2:=GI P.tb ((aP P.tb).take j);have g8:((aP P.tb).take j).length≤64:=by rw[lC];omega
       have g7:H.ma.ca.length=H.ca.length:=rfl;have g6:H.ma.sp.length=H.sp.length:=ER H;generalize dH P.tb n=e at *
       generalize nD P.tb ((aP P.tb).take j)=L1 at *
       generalize swapT P.tb ((aP P.tb).take j)=L2 at *
       have kt:=Lib.hid k4;have ko:=Lib.hid k0;clear gc k4 k0;have hg:=ae q hU;have bx7:=bx6.ext hU;have hD:=aB.ext z hU;have hB:=aB.ext hc hU;have k5:=k6.below hU;have kq:=kc.below hU;have gm:=hl.below hU;clear q bx6 z hc k6 kc hl hU
       go_wp2_with (refine aI rfl _ _ _ rfl (jw e) rfl rfl rfl entry_size (by simp[jw,Value.oneCell']) ?_)
       intro w8 hT ex;have hH:=ae hg hT;have bx8:=bx7.ext hT;have hL:IB w8 gh _:=aB.ext hD hT;have hJ:IB w8 gs _:=aB.ext hB hT;have h8:=k5.below hT;have kp:=kq.below hT;have gl:=gm.below hT;clear hg bx7 hD hB k5 kq gm hT;have hZ:=ex.cell;unfold jw at hZ
       by_cases hk1:e.k=1
       ·obtain⟨K,hK⟩:∃K:Nat,e.n=K:=⟨e.n.toNat,by omega⟩;have hy:K<H.m.fs.length:=by have:=h4.2 (by omega);omega
        have hr:=kt.out;have hm:=ko.out;rw[if_pos hk1,hK] at hr;rw[if_pos hk1,mY] at hm;rw[hk1,hK] at hZ;have kP:=hL.cell (nH H.m.fs.length (lJ H.ma p L1) K hy);have kv:=Pk kx.out p L1 K;have ka:IntKind.i64.wrap ((cnt (lJ H.ma p L1) K:Int)+1)=(cnt (lJ H.ma p L1) K:Int)+1:=bM _ (by omega);have gu:(K:Int)<(H.m.fs.length:Int):=by omega
        have kd:=Lib.hid hr;have kb:=Lib.hid hm;clear hr hm h4 hk1 k7 ku hK
        go_wp2_with (refine aA rfl _ _ _ rfl gh K _ [.int .i64 ((cnt (lJ H.ma p L1) K:Int)+1)] rfl rfl rfl _ _ hL (by simp[mK];omega) int_one (fun u hu=>by cases bv.1 hu;rfl) ?_)
        intro w9 kg hs;rw[IB.set (by rw[mK];exact hy),Eh _ _ _ hy,←Ns,←kd.out] at kg;rw[←kb.out] at hJ;have hQ:=hH.grown hs hH.size (fun k hk=>by cases hk;exact kZ);have bx9:=bx8.grown hs (fun e=>gq (aJ e).symm);have gw:IB w9 gs _:=aB.grown hJ hs (fun e=>kL (aJ e));have hY:BR w9 H:=h.below hQ;obtain⟨bs',os',P',hV,h0,hX⟩:=zy hY.sp.rd p hpl;have kW:P' = P:=by have h2:H.ma.sp[p]?=some P.sp:=hG.out;rw[gt.out] at h0;exact (aJ h0).symm
        subst kW;rw[kV] at hV;cases hV;have ke:=hY.ps P' (bO h0);have kI:=h8.grown hs (fun g hv e=>by have:=h8.ge g hv;have e2:=aJ e;omega);clear hH bx8 hJ hL hZ ex hs ka kP h8 kp gl hY;go_wp2;go_roundw
        case rel=>exact⟨j+1,by omega,by go_num,hQ,bx9,kg,gw,by rw[←ks.out];exact kI,hX,ke,hO⟩
        case measure=>simp[intOf];omega
       obtain⟨K,hK⟩:∃K:Nat,e.n=K:=⟨e.n.toNat,by omega⟩;have kO:e.k=2:=by omega
       have hy:K<H.sl.length:=by have:=h4.1 kO;omega
       have hr:=kt.out;have hm:=ko.out;rw[if_neg hk1,mY] at hr;rw[if_neg hk1,hK] at hm;rw[kO,hK] at hZ;have kP:=hJ.cell (nH H.sl.length (jN H.ma p L2) K hy);have kv:=IK (jN H.ma p L2) K;have ka:IntKind.i64.wrap ((cnt (jN H.ma p L2) K:Int)+1)=(cnt (jN H.ma p L2) K:Int)+1:=bM _ (by omega);have gu:(K:Int)<(H.sl.length:Int):=by omega
       have kd:=Lib.hid hr;have kb:=Lib.hid hm;clear hr hm h4 hk1 kO k7 ku hK
       go_wp2_with (refine aA rfl _ _ _ rfl gs K _ [.int .i64 ((cnt (jN H.ma p L2) K:Int)+1)] rfl rfl rfl _ _ hJ (by simp[mK];omega) int_one (fun u hu=>by cases bv.1 hu;rfl) ?_)
       intro w9 kg hs;rw[IB.set (by rw[mK];exact hy),Eh _ _ _ hy,←Km,←kb.out] at kg;rw[←kd.out] at hL;have hQ:=hH.grown hs hH.size (fun k hk=>by cases hk;exact gG);have bx9:=bx8.grown hs (fun e=>gT (aJ e).symm);have gz:IB w9 gh _:=aB.grown hL hs (fun e=>kL (aJ e).symm);have hY:BR w9 H:=h.below hQ;obtain⟨bs',os',P',hV,h0,hX⟩:=zy hY.sp.rd p hpl;have kW:P' = P:=by have h2:H.ma.sp[p]?=some P.sp:=hG.out;rw[gt.out] at h0;exact (aJ h0).symm
       subst kW;rw[kV] at hV;cases hV;have ke:=hY.ps P' (bO h0);have kI:=h8.grown hs (fun g hv e=>by have:=h8.ge g hv;have e2:=aJ e;omega);clear hH bx8 hJ hL hZ ex hs ka kP h8 kp gl hY;go_wp2;go_roundw
       case rel=>exact⟨j+1,by omega,by go_num,hQ,bx9,gz,kg,by rw[←ks.out];exact kI,hX,ke,hO⟩
       case measure=>simp[intOf];omega
      have gQ:¬(j:Int)<((aP P.tb).length:Int):=by omega
      rw[iN (by omega)] at d b h6;have gA:IB wr gh (kF H.m.fs.length (lJ H.ma (p+1) [])):=by rw[←LC hG.out];exact d
      have gy:IB wr gs (kF H.sl.length (jN H.ma (p+1) [])):=by rw[←Jp hG.out];exact b
      have hO:Hid (∀t∈H.ma.sp.take (p+1),∀i∈aP t.tb,bQ H.ma t i=0):=Lib.hid fun t ht i hi=>by
       rw[take_at hG.out] at ht;rcases fO.1 ht with ht|ht
       ·exact hz.out t ht i hi
       rw[bv.1 ht] at hi ⊢;exact h6.out i hi
      clear d b ho hf ha hz h6;go_wp2;go_roundw
      case rel=>
       refine⟨_,_,_,_,_,_,.int .i64 ((p:Int)+1),⟨p+1,by omega,?_,gA,gy,hO⟩,rfl,rfl,rfl,rfl,rfl,rfl,rfl⟩;go_num
      case measure=>simp[intOf];omega
    have gM:¬(p:Int)<(H.sp.length:Int):=by omega
    have kl:p=H.ma.sp.length:=by rw[ER];omega
    rw[kl,Ps] at d;rw[kl,Lg] at b;rw[kl,xQ] at hz;have h3:Hid (jK H.ma=if countB H.ma=true then 0 else 7):=Lib.hid (by rw[kG.out,if_neg (by rw[KY hz.out];simp)]);clear hz kG kl;have l:=bx.cell;unfold dh at l;go_upto_region 30 with (fail);clear l
    go_loopw [104] (fun i wr => ∃(k:Nat),k≤H.m.fs.length∧i = .int .i64 k∧Below w.heap.size w wr∧aB wr w.heap.size (dh H) 41∧IB wr gh (kF H.m.fs.length (rP H.ma))∧IB wr gs (kF H.sl.length (pQ H.ma))∧Hid (∀i,i<k→EX H.ma i=true)) (fun i _=>H.m.fs.length-(intOf i).toNat)
    case atStart=>exact⟨0,aV _,rfl,o,bx,d,b,Lib.hid fun i hi=>absurd hi (dV _)⟩
    case round=>
     clear o bx d b;obtain⟨k,hk,rfl,o,bx,d,b,hO⟩:=hrel
     by_cases hkl:k<H.m.fs.length
     ·obtain⟨bg,og,gV,hf⟩:=jX fJ (by decide) (h.below o).fr.rd k hkl;have kN:(k:Int)<(H.m.fs.length:Int):=by omega
      have kX:H.m.fs[k]=aN H.ma k:=by have:=yG (m:=H.ma) (f:=k) hkl;have h2:H.m.fs[k]?=some (aN H.ma k):=this;rw[aH hkl] at h2;exact aJ h2
      rw[kX] at hf;have km:Hid (EX H.ma k=(decide ((aN H.ma k).r=cnt (rP H.ma) k)&&(decide ((aN H.ma k).f<0)||H.ca.any (isK (k:Int))))):=Lib.hid rfl;generalize aN H.ma k=x at *
      rw[gV];clear kX;obtain⟨gi,gj⟩:∃g,g=wr.heap.size:=⟨_,rfl⟩;go_upto_region 31 with (fail);have gg:gh<wr.heap.size∧gs<wr.heap.size:=⟨aB.lt d,aB.lt b⟩;have gU:=bx.lt;have kR:Below wr.heap.size wr ((wr.alloc (.cells #[.int .i64 0] 3)).alloc (.cells #[.int .u8 0,.int .u8 0,.int .u8 0,.int .u8 0,.int .u8 0,.int .u8 0,.int .u8 0,.int .u8 0,.int .i64 0,.bool false,.bool false,.int .i64 0,.int .i64 0] 81)):=((Below.refl _ _).alloc (ay _) _).alloc (by rw[show (wr.alloc (.cells #[.int .i64 0] 3)).heap.size=wr.heap.size+1 from zk _];omega) _;have e1:(wr.alloc (.cells #[.int .i64 0] 3)).heap.size=wr.heap.size+1:=zk _;have gD:aB ((wr.alloc (.cells #[.int .i64 0] 3)).alloc (.cells #[.int .u8 0,.int .u8 0,.int .u8 0,.int .u8 0,.int .u8 0,.int .u8 0,.int .u8 0,.int .u8 0,.int .i64 0,.bool false,.bool false,.int .i64 0,.int .i64 0] 81)) wr.heap.size #[.int .i64 0] 3:=(aB.new wr _ _).ext ((Below.refl _ _).alloc (ay _) _);have gC:aB ((wr.alloc (.cells #[.int .i64 0] 3)).alloc (.cells #[.int .u8 0,.int .u8 0,.int .u8 0,.int .u8 0,.int .u8 0,.int .u8 0,.int .u8 0,.int .u8 0,.int .i64 0,.bool false,.bool false,.int .i64 0,.int .i64 0] 81)) (wr.heap.size+1) #[.int .u8 0,.int .u8 0,.int .u8 0,.int .u8 0,.int .u8 0,.int .u8 0,.int .u8 0,.int .u8 0,.int .i64 0,.bool false,.bool false,.int .i64 0,.int .i64 0] 81:=by rw[←e1];exact aB.new _ _ _
      go_wp2_with (first | (refine ax _ _ rfl bg (og+k*13) rfl rfl _ hf _ underlying81 rfl frame_size ?_) | (refine aA rfl _ _ _ rfl wr.heap.size 0 _ [.int .i64 (k:Int)] rfl rfl rfl _ _ gD (by show 0+1≤1;decide) int_one (fun u hu=>by cases bv.1 hu;rfl) ?_))
      intro w5 s h9;have kz : aB w5 wr.heap.size #[.int .i64 (k:Int)] 3:=s;have gn:=gC.grown h9 (fun e=>by have:=aJ e;omega);have kf:=kR.grown h9 kR.size (fun k hk=>by cases hk;exact ay _)
      go_wp2_with (refine gP rfl _ _ _ rfl (wr.heap.size+1) 0 (vW x) rfl rfl _ _ gn (by show 0+13≤13;decide) frame_size (qw x) ?_)
      intro w6 hh hl;have fx6:aB w6 (wr.heap.size+1) (vW x) 81:=by have e2:=iT (#[.int .u8 0,.int .u8 0,.int .u8 0,.int .u8 0,.int .u8 0,.int .u8 0,.int .u8 0,.int .u8 0,.int .i64 0,.bool false,.bool false,.int .i64 0,.int .i64 0]) (vW x) rfl;rw[←e2];exact hh
      have ix6:aB w6 wr.heap.size #[.int .i64 (k:Int)] 3:=kz.grown hl (fun e=>by have:=aJ e;omega);have hS:=kf.grown hl kf.size (fun k hk=>by cases hk;omega);have q:=ae o hS;have bx6:=bx.ext hS;have z:IB w6 gh _:=aB.ext d hS;have hc:IB w6 gs _:=aB.ext b hS;obtain⟨gx,gd⟩:∃g,g=wr.heap.size+1:=⟨_,rfl⟩;rw[←gd] at fx6 ⊢;rw[←gj] at ix6 ⊢;clear kR kf hS gD gC s kz gn h9 hl hh hf o bx d b e1 gg gU gd gj;go_upto_region 32 with (fail)
      by_cases c1:x.r=cnt (rP H.ma) k
      ·by_cases c2:0≤x.f
       ·skip;refine aM 19 [_,_,_,_,_,_,_,_,_,_,_,_,_,_,.v (.func (.func 71) #[] #[.pointer (some ⟨gi,0,none⟩)]),.v (.bool (H.ca.any (isK (k:Int)))),_,_,.v (.bool (!(H.ca.any (isK (k:Int)))))] (Gf gx 8 rfl rfl (Gl fx6 rfl rfl rfl rfl rfl (Gk rfl (Gl ix6 (V:=.int .i64 (k:Int)) rfl rfl rfl rfl rfl (Gr (.pointer (some ⟨gh,k,none⟩)) (fun ρ y W hb hF=>(DX rfl (aF rfl hF) (aF rfl hF) hkl underlying29 int_one)) rfl rfl (Gc (.int .i64 (cnt (rP H.ma) k:Int)) (fun W hb=>by simp[IB.cell (aB.ext z hb) (nH H.m.fs.length (rP H.ma) k hkl)]) rfl rfl rfl rfl (Gb (.bool false) (by simp[go_sem,c1]) rfl rfl rfl rfl rfl (Gk rfl (Gf gx 11 rfl rfl (Gl fx6 rfl rfl rfl rfl rfl (Gb (.bool true) (by simp[go_sem,c2]) rfl rfl rfl rfl rfl (Gk rfl (Gf w.heap.size 9 rfl rfl (Gl bx6 rfl rfl rfl rfl rfl (ag ?_ (ag ?_ (Gr (.bool (!(H.ca.any (isK (k:Int))))) (fun ρ y W hb hF=>CW rfl (aF rfl hF)) rfl rfl (Gk rfl (Gk rfl (aC)))))))))))))))))))) (fun _=>rfl) rfl ?_
        ·intro ρ y W hw hn hb hd;have gZ:ρ (.tmp 15) = .pointer (some ⟨gi,0,none⟩):=(hn (.tmp 15) rfl).trans rfl;refine aj (.func (.func 71) #[] #[.pointer (some ⟨gi,0,none⟩)]) (bu 11 120 true true rfl rfl ((hw 120 11 rfl).trans (hd 11 rfl))) (by simp[execOp,go_sem,gZ]) rfl
        ·intro ρ y W hw hn hb hd;have gF:=hw 122 13 rfl;have gY:y 13=_:=hd 13 rfl;have gE:=hw 123 14 rfl;have gX:y 14=_:=hd 14 rfl;have EF:∀f,ρ (.func f) = .func (.func f) #[] #[]:=fun f=>hn (.func f) trivial;refine aR _ _ (bu 11 120 true true rfl rfl ((hw 120 11 rfl).trans (hd 11 rfl))) (aU rfl (EF _) func70 (by kernel_rfl) (by kernel_rfl) (by simp only[bV,bP,bT,gF,gY,gE,gX,EF];rfl)) ?_;refine (RY H.ca _ _ W ((h.below q).below hb).ca.rd (by omega) gi k (ix6.ext hb)).mono ?_;rintro r w1 ⟨rfl,kh⟩;exact⟨_,rfl,kh,rfl⟩
        intro y W7 a _;have hg:=ae q a;have bx7:=bx6.ext a;have hD:=aB.ext z a;have hB:=aB.ext hc a;clear a q bx6 z hc ix6 fx6;cases hA:H.ca.any (isK (k:Int)) with
        | true=>
         have hx:Hid (EX H.ma k=true):=Lib.hid (by rw[km.out,decide_eq_true c1,hA];simp);clear c1 c2;have ki:Hid (∀i,i<k+1→EX H.ma i=true):=Lib.hid fun i hi=>by
          by_cases e:i=k
          ·rw[e];exact hx.out
          ·exact hO.out i (by omega)
         go_wp2;go_roundw
         case rel=>exact⟨k+1,by omega,by go_num,hg,bx7,hD,hB,ki⟩
         case measure=>simp[intOf];omega
        | false=>
         have hx:Hid (EX H.ma k=false):=Lib.hid (by rw[km.out,decide_eq_true c1,hA,decide_eq_false (by omega)];rfl);clear c1 c2;have hq:Hid (jK H.ma=7):=Lib.hid (by rw[h3.out,if_neg];intro l;exact absurd (KN l k hkl) (by rw[hx.out];decide));go_wp2;go_ret;rw[hq.out];exact⟨rfl,hg⟩
       have hx:Hid (EX H.ma k=true):=Lib.hid (by rw[km.out,decide_eq_true c1,decide_eq_true (by omega)];rfl);refine aM 19 [_,_,_,_,_,_,_,_,_,_,_,_,_,_,_,_,_,_,.v (.bool false)] (Gf gx 8 rfl rfl (Gl fx6 rfl rfl rfl rfl rfl (Gk rfl (Gl ix6 (V:=.int .i64 (k:Int)) rfl rfl rfl rfl rfl (Gr (.pointer (some ⟨gh,k,none⟩)) (fun ρ y W hb hF=>(DX rfl (aF rfl hF) (aF rfl hF) hkl underlying29 int_one)) rfl rfl (Gc (.int .i64 (cnt (rP H.ma) k:Int)) (fun W hb=>by simp[IB.cell (aB.ext z hb) (nH H.m.fs.length (rP H.ma) k hkl)]) rfl rfl rfl rfl (Gb (.bool false) (by simp[go_sem,c1]) rfl rfl rfl rfl rfl (Gk rfl (Gf gx 11 rfl rfl (Gl fx6 rfl rfl rfl rfl rfl (Gb (.bool false) (by simp[go_sem,c2]) rfl rfl rfl rfl rfl (Gk rfl (Gk rfl (Gk rfl (Gk rfl (Gk rfl (Gk rfl (Gk rfl (Gk rfl (aC)))))))))))))))))))) (fun _=>rfl) rfl ?_;intro y W7 a _;have hg:=ae q a;have bx7:=bx6.ext a;have hD:=aB.ext z a;have hB:=aB.ext hc a;clear a q bx6 z hc ix6 fx6;clear c1 c2;have ki:Hid (∀i,i<k+1→EX H.ma i=true):=Lib.hid fun i hi=>by
        by_cases e:i=k
        ·rw[e];exact hx.out
        ·exact hO.out i (by omega)
       go_wp2;go_roundw
       case rel=>exact⟨k+1,by omega,by go_num,hg,bx7,hD,hB,ki⟩
       case measure=>simp[intOf];omega
      have hx:Hid (EX H.ma k=false):=Lib.hid (by rw[km.out,decide_eq_false c1];rfl);refine aM 19 [_,_,_,_,_,_,_,_,_,_,_,_,_,_,_,_,_,_,.v (.bool true)] (Gf gx 8 rfl rfl (Gl fx6 rfl rfl rfl rfl rfl (Gk rfl (Gl ix6 (V:=.int .i64 (k:Int)) rfl rfl rfl rfl rfl (Gr (.pointer (some ⟨gh,k,none⟩)) (fun ρ y W hb hF=>(DX rfl (aF rfl hF) (aF rfl hF) hkl underlying29 int_one)) rfl rfl (Gc (.int .i64 (cnt (rP H.ma) k:Int)) (fun W hb=>by simp[IB.cell (aB.ext z hb) (nH H.m.fs.length (rP H.ma) k hkl)]) rfl rfl rfl rfl (Gb (.bool true) (by simp[go_sem,c1]) rfl rfl rfl rfl rfl (Gk rfl (Gk rfl (Gk rfl (Gk rfl (Gk rfl (Gk rfl (Gk rfl (Gk rfl (Gk rfl (Gk rfl (Gk rfl (Gk rfl (aC)))))))))))))))))))) (fun _=>rfl) rfl ?_;intro y W7 a _;have hg:=ae q a;have bx7:=bx6.ext a;have hD:=aB.ext z a;have hB:=aB.ext hc a;clear a q bx6 z hc ix6 fx6;clear c1;have hq:Hid (jK H.ma=7):=Lib.hid (by rw[h3.out,if_neg];intro l;exact absurd (KN l k hkl) (by rw[hx.out];decide));go_wp2;go_ret;rw[hq.out];exact⟨rfl,hg⟩
     have kN:¬(k:Int)<(H.m.fs.length:Int):=by omega
     have gJ:=(h.below o).sl;have gv:dP wr (some ⟨gs,0,none⟩) ((kF H.sl.length (pQ H.ma)).map fT):=fun i u hi=>⟨gs,0,rfl,by rw[eu,aB.cell b];simpa using hi⟩;have l:=bx.cell;unfold dh at l;have kM:=Lib.hid (mK H.sl.length (pQ H.ma));have hq:Hid (jK H.ma=if H.sl=kF H.sl.length (pQ H.ma) then 0 else 7):=Lib.hid (by
      rw[h3.out,KJ,dK.2 (fun i hi=>hO.out i (by have:=dE.1 hi;have e:H.ma.m.fs.length=H.m.fs.length:=rfl;omega)),lu];show (if decide (H.sl=kF H.sl.length (pQ H.ma))=true then (0:Int) else 7)=_
      by_cases e:H.sl=kF H.sl.length (pQ H.ma)
      ·rw[if_pos e,if_pos (decide_eq_true e)]
      ·rw[if_neg e,if_neg (by simp[e])])
     have gH:=n2;generalize hC:kF H.sl.length (pQ H.ma)=C at *
     clear hO h3 hC
     go_wp2_with fail
     rw[show (Value.slice (some ⟨gs,0,none⟩) H.sl.length H.sl.length) = .slice (some ⟨gs,0,none⟩) C.length H.sl.length from by rw[kM.out]];refine (KW H.sl C H.asl (some ⟨gs,0,none⟩) H.csl H.sl.length _ gJ.rd gv (by omega) (by rw[kM.out];omega)).mono ?_;rintro r w5 ⟨rfl,s⟩
     by_cases e:H.sl=C
     ·rw[show (H.sl==C)=true from by rw[beq_iff_eq];exact e];have kH:Hid (jK H.ma=0):=Lib.hid (by rw[hq.out,if_pos e]);clear e l;go_wp2;go_ret;rw[kH.out];exact⟨rfl,ae o s⟩
     rw[show (H.sl==C)=false from by rw[beq_eq_false_iff_ne];exact e];have kH:Hid (jK H.ma=7):=Lib.hid (by rw[hq.out,if_neg e]);clear e l;go_wp2;go_ret;rw[kH.out];exact⟨rfl,ae o s⟩
end Go.Proofs.YtjkkoeijlhfneaaGreat
namespace Pw
open Go Go.RowKit
variable {P:Program} {Q:Exit → Act → World → Prop} {a0:Act} {i id:Nat} {o:Oper} {ops:Array Oper} {v:Value} {w w0:World}
theorem wp_mono' {a:Act} {K K' : Act→World→Prop} (h:∀v D w,K (Act.put { a with defers:=D } o.dst v) w→K' (Act.put { a with defers:=D } o.dst v) w)
 (hh:o.wp P a w K Q):o.wp P a w K' Q:=by
 unfold Oper.wp at *
 generalize (execOp a.eval o).run P w=r at *
 cases r with
 | ok n w'=>
  cases n<;>simp only[Oper.upon] at hh ⊢ <;>
   first
    | exact h _ a.defers _ hh
    | exact h _ _ _ hh
    | exact xK hh (fun e w'' he=>by cases e<;>first | exact h _ a.defers _ he | exact he)
    | exact Rows.mono hh (fun _ _ he=>h _ a.defers _ he)
 | halt x w'=>cases x<;>simp only[Oper.upon] at hh ⊢<;>exact hh
def BN (v:Value) (o:Oper):Oper:={ o with op:=.move (.const v) }
def freed (ops:Array Oper) (p:Nat) (v:Value):Array Oper:=ops.modify p (BN v)
theorem Bh (ops:Array Oper) (p:Nat) (v:Value) (i:Nat):(freed ops p v)[i]?=if p=i then (ops[i]?).map (BN v) else ops[i]?:=by
 unfold freed;rw[Array.getElem?_modify]
theorem EQ (ops:Array Oper) (p:Nat) (v:Value):(freed ops p v).size=ops.size:=by unfold freed;simp
theorem Bu (ops:Array Oper) (p:Nat) (v:Value) (listed:Array Bool):Region.ready .any (freed ops p v) listed=Region.ready .any ops listed:=by
 unfold Region.ready;rw[EQ];apply List.filter_congr;intro i _;congr 1;rw[Bh]
 by_cases e:p=i
 ·rw[if_pos e];cases ops[i]?<;>rfl
 ·rw[if_neg e]
theorem Fe (ops:Array Oper) (p:Nat) (v:Value) (ts:Array Value):yielded (freed ops p v) ts=yielded ops ts:=by
 funext g;unfold yielded;rw[Bh]
 by_cases e:p=g
 ·rw[if_pos e];cases ops[g]?<;>rfl
 ·rw[if_neg e]
def Nr (ops:Array Oper) (p d:Nat):Bool:=
 (match ops[p]? with
  | some o=>(match o.op with
   | .move (.tmp t)=>decide (t=d)&&o.guard.isNone&&decide (o.dst≠some d)
   | _=>false)
  | none=>false) &&
 (List.range ops.size).all fun i=>match ops[i]? with
  | none=>true
  | some o=>decide (o.dst≠some d)||o.after.toList.any fun e=>decide (e.on=p)&&Region.binds .any e
theorem JN {a:Act} {D:List Deferred} {dst:Option Tmp} {d:Nat} (h:dst≠some d):(Act.put { a with defers:=D } dst v).eval (.tmp d)=a.eval (.tmp d):=by
 cases dst with
 | none=>rfl
 | some t=>
  have ht:t≠d:=fun e=>h (by rw[e]);simp[Act.put,Act.eval,zF,ht]
theorem Na {listed:Array Bool} (hi:i∈Region.ready .any ops listed) (ho:ops[i]?=some o):listed.getD i false=false∧∀e∈o.after,Region.binds .any e=true→listed.getD e.on false=true:=by
 obtain⟨h1,o',a,h2⟩:=mem_ready.1 hi;rw[ho] at a;cases a;refine⟨?_,h2⟩;rw[bN] at h1 ⊢;cases h:listed[i]? with
 | none=>rfl
 | some b=>rw[h] at h1;exact h1
theorem zo {P:Program} {ops:Array Oper} {Q:Exit→Act→World→Prop} {p d:Nat} {v:Value} (hok0:Nr ops p d=true):∀(fuel:Nat) (listed:Array Bool) (a:Act) (w:World),(listed.getD p false=false→a.eval (.tmp d)=v)→wpAny P .any (freed ops p v) Q fuel listed a w→wpAny P .any ops Q fuel listed a w
 | 0,listed,a,w,hI,h=>by unfold wpAny at h ⊢;rw[Bu] at h;exact h
 | fuel+1,listed,a,w,hI,h=>by
  unfold wpAny at h ⊢;rw[Bu] at h;refine⟨h.1,fun i hi => ?_⟩;have hw:=h.2 i hi;have hup:(listed.setIfInBounds i true).getD p false=false→listed.getD p false=false:=fun h'=>by
   cases hl:listed.getD p false with
   | false=>rfl
   | true=>
    exfalso
    by_cases hs:i<listed.size
    ·rw[xe hs p hl] at h'; cases h'
    have e:listed.setIfInBounds i true=listed:=by rw[Array.setIfInBounds_eq_of_size_le (by omega)]
    rw[e,hl] at h'; cases h'
  have hok:=hok0;unfold Nr at hok;rw[dS] at hok;obtain⟨hp,hall⟩:=hok;unfold wpOp at hw ⊢;rw[Bh,Fe] at hw;cases ho:ops[i]? with
  | none=>
   rw[ho] at hw;have hw' : wpAny P .any (freed ops p v) Q fuel (listed.setIfInBounds i true) a w:=by
    by_cases e:p=i
    ·rw[if_pos e] at hw;exact hw
    ·rw[if_neg e] at hw;exact hw
   exact zo hok0 fuel _ a w (fun h'=>hI (hup h')) hw'
  | some o=>
   rw[ho] at hw;have hilt:i<ops.size:=(ib.1 ho).1;have hedge:=Na hi ho
   by_cases e:p=i
   ·subst e;rw[if_pos rfl] at hw;simp only[qA] at hw;rw[ho] at hp;simp only at hp;cases hop:o.op with
    | move x=>
     rw[hop] at hp;cases x with
     | tmp t=>
      simp only[dS,decide_eq_true_eq] at hp;obtain⟨⟨rfl,hg⟩,hdst⟩:=hp;have hev:a.eval (.tmp t)=v:=hI hedge.1;have hex:execOp a.eval (BN v o)=execOp a.eval o:=by unfold execOp BN;simp only[hop];rw[hev];rfl
      have hnext:∀(v' : Value) (D:List Deferred) (w:World),wpAny P .any (freed ops p v) Q fuel (listed.setIfInBounds p true) (Act.put { a with defers:=D } o.dst v') w→wpAny P .any ops Q fuel (listed.setIfInBounds p true) (Act.put { a with defers:=D } o.dst v') w:=
       fun v' D w hh=>zo hok0 fuel _ _ w (fun _=>by rw[JN hdst];exact hev) hh
      simp only;have hwt:Region.wanted (BN v o) (yielded ops a.tmps)=Region.wanted o (yielded ops a.tmps):=rfl;rw[hwt] at hw;split
      ·rename_i hwant;rw[if_pos hwant] at hw;rcases hw with hw|hw
       ·refine .inl (wp_mono' hnext ?_);unfold Oper.wp at hw ⊢;rw[←hex];exact hw
       refine .inr ⟨?_,hw.2⟩;have:=hw.1;unfold Oper.asks at this ⊢;rw[←hex];exact this
      rename_i hwant;rw[if_neg hwant] at hw;exact hnext undef a.defers w hw
     | _=>cases hp
    | _=>rw[hop] at hp;cases hp
   rw[if_neg e] at hw;simp only at hw ⊢;have ho2:=dK.1 hall i (dE.2 hilt);rw[ho] at ho2;simp only[tF,decide_eq_true_eq] at ho2;have hnext:∀(v' : Value) (D:List Deferred) (w:World),wpAny P .any (freed ops p v) Q fuel (listed.setIfInBounds i true) (Act.put { a with defers:=D } o.dst v') w→wpAny P .any ops Q fuel (listed.setIfInBounds i true) (Act.put { a with defers:=D } o.dst v') w:=by
    intro v' D w hh;refine zo hok0 fuel _ _ w (fun h' => ?_) hh;rcases ho2 with h2|h2
    ·rw[JN h2];exact hI (hup h')
    rw[iX] at h2;obtain⟨e',he',h3⟩:=h2;rw[dS,decide_eq_true_eq] at h3;have:=hedge.2 e' (mX.1 he') h3.2;rw[h3.1] at this;rw[hup h'] at this;cases this
   split
   ·rename_i hwant;rw[if_pos hwant] at hw;exact hw.imp (wp_mono' hnext) id
   rename_i hwant;rw[if_neg hwant] at hw;exact hnext undef a.defers w hw
def freedL:List Oper→Nat→Value→List Oper
 | [],_,_=>[]
 | o::r,0,v=>BN v o::r
 | o::r,k+1,v=>o::freedL r k v
theorem Ej (v:Value):∀(l:List Oper) (p:Nat),l.modify p (BN v)=freedL l p v
 | [],p=>by cases p<;>rfl
 | o::r,0=>rfl
 | o::r,k+1=>by rw[List.modify_succ_cons,Ej v r k];rfl
theorem OU (l:List Oper) (p:Nat) (v:Value):freed ⟨l⟩ p v=⟨freedL l p v⟩:=by
 unfold freed;rw[←Ej];simp
theorem Ui {l:List Oper} (p d:Nat) (v0:Value) (hm:P.follows .mixedOrders=true) (hf:Nr ⟨l⟩ p d=true) (hv:a0.eval (.tmp d)=v0)
 (h:∀ops:Array Oper,ops=(freedL l p v0).toArray→wpAny P .any ops Q ops.size (Array.replicate ops.size false) a0 { w0 with drawn:=w0.drawn+1 }) :
  (Code.region id ⟨l⟩ true).wp P Q a0 w0:=by
 have h:=h _ rfl;rw[show (freedL l p v0).toArray=freed ⟨l⟩ p v0 from (OU l p v0).symm,EQ] at h;exact wp_region_any hm (zo hf _ _ _ _ (fun _=>hv) h)
end Pw
namespace Go.Proofs.YtjkkoeijlhfneaaGreat
open _root_.Go.Proofs.Tryz
open Go.RowKit Go.Maps Pw
variable {B B' b c n sz:Nat} {H:MH} {T:TypeId} {a:Option Addr} {cs:Array Value} {ps:List PF} {v:Value} {w w':World} {xs ys:List Value}
theorem IQ (l:List Cc) (a:Option Addr) (c:Nat) (w:World) (hle:l.length≤c) (hnil:a=none→c=0) (hrd:dP w a (l.flatMap mD)) (hb:l.length*24≤140737488355328) :
  Calls Tryz.prog 76 #[.slice a l.length c] w fun e w' => ∃v,e = .returned v∧Own w' w.heap.size 106 3 v l.length (l.flatMap mD)∧Below w.heap.size w w':=by
 cases a with
 | none=>
  have h0:=hnil rfl;have hl:l=[]:=jM (by omega);subst hl;subst h0;have hq:=fun W=>lV (P:=Tryz.prog) W 38 _ none 0 0 0 0 underlying38;go_enter func76,ntmps76;go_wp2;go_ret;exact⟨_,rfl,by simpa using Own.nil _ _ _ _,Below.refl _ _⟩
 | some ad=>
  have hq:=fun W=>lV (P:=Tryz.prog) W 38 _ (some ad) l.length c 0 0 underlying38;go_enter func76,ntmps76
  go_wp2_with (at_builtin;go_must (refine fq rfl _ _ 38 rfl w.heap.size 106 (.agg #[.int .i64 0,.int .i64 0,.int .i64 0]) 3 24 underlying38 cached_info rfl (by decide) _ 0 [] rfl ?own (some ad) l.length c (l.flatMap mD) rfl (fun h=>(by cases h)) hle (mQ l) ?rd (Hd l) (by unfold maxLen;omega) (by simpa using hb) ?bb ?k))
  case own=>exact⟨rfl,.inr ⟨w.heap.size,0,0,#[],rfl,ay _,aB.new _ _ _,ay _,aV _,by simp,fun j u h=>by simp at h⟩⟩
  case rd=>exact hrd.below ((Below.refl _ _).alloc (ay _) _)
  case bb=>exact fZ _ _
  intro v w1 b d;go_wp2;go_ret;exact⟨v,rfl,by simpa using b,((Below.refl _ _).alloc (ay _) _).grown d (fZ _ _) (fun k hk=>by cases hk;exact ay _)⟩
theorem QE.fsz (h:QE H.ma):Uy H.fi:=by
 have h1:(H.fi.map PF.fi).length≤1000:=h.st.1;rw[fo] at h1;refine⟨by omega,fun p hp => ?_⟩;have:=h.st.2 p.fi (gW.2 ⟨p,hp,rfl⟩);have e:p.fi.b.length=p.l.length:=rfl;omega
theorem QE.spz (h:QE H.ma) {p:PS} (hp:p∈H.sp):p.ar.length≤1000∧Fu p.tb:=by
 obtain⟨h1,h2⟩:=h.sp.2 p.sp (gW.2 ⟨p,hp,rfl⟩);exact⟨h1,fun k hk=>by have:=h2 k hk;have e:p.sp.tb[k].length=p.tb[k].length:=rfl;omega⟩
def uP (w:World) (B:Nat) (p:PS) (s:Sp):Prop:=p.sp=s∧Own w B 99 7 (.slice p.aa p.ar.length p.ac) p.ar.length (p.ar.flatMap mM)∧qG w B (nP p.ts) p.tb
theorem uP.below {p:PS} {s:Sp} (h:uP w B p s) (hb:Below w.heap.size w w'):uP w' B p s:=⟨h.1,h.2.1.below hb,h.2.2.below hb⟩
def VH (B:Nat) (s:Sp):mg:=⟨fun v w => ∃p,v = .agg (vT p)∧uP w B p s,fun _ _ _ hb ⟨p,h1,h2⟩=>⟨p,h1,h2.below hb⟩⟩
def Wv (B:Nat) (s:Sp):mg:=⟨fun v w => ∃g p,v = .slice (some ⟨g,0,none⟩) 1 1∧dP w (some ⟨g,0,none⟩) (sW p)∧uP w B p s,fun _ _ _ hb ⟨g,p,h1,h2,h3⟩=>⟨g,p,h1,h2.below hb,h3.below hb⟩⟩
theorem Rs {p:PS} {s:Sp} (h:uP w B p s):∀u∈sW p,u.oneCell' = true:=by
 have h1:=h.2.2.rd.one;rw[←jV,dK] at h1;intro u hu;simp only[sW,vT,bZ,fP,or_false] at hu;simp only[nP,bZ,fP,or_false] at h1;rcases hu with rfl|rfl|hu
 ·rfl
 ·rfl
 ·exact h1 u hu
theorem caO_size:(Tryz.prog.info? 38).map (·.size)=some 1:=by kernel_rfl
theorem NG (ho:Own w B 55 10 (.slice a n c) n xs) (hg:w.grownBy w' (Value.slice a n c).ownBlock) :
  w.grownBy w' none∨∃g cs,aB w g cs 55∧B≤g∧w.grownBy w' (some g):=by
 cases hr:(Value.slice a n c).ownBlock with
 | none=>rw[hr] at hg;exact .inl hg
 | some g=>
  rw[hr] at hg;obtain⟨cs,hb⟩:=kQ ho g hr;exact .inr ⟨g,cs,hb,ho.ge g hr,hg⟩
theorem iK {m:Nat} (ho:Own w B 55 10 (.slice a n c) n xs) (hg:w.grownBy w' (Value.slice a n c).ownBlock) (h:Own w B' T sz v m ys) (hT:T≠55):Own w' B' T sz v m ys:=by
 rcases NG ho hg with h1|⟨g,cs,hb,_,h1⟩
 ·exact kG h h1
 ·exact ak h hb (fun e=>hT e.symm) h1
theorem zV (ho:Own w B 55 10 (.slice a n c) n xs) (hg:w.grownBy w' (Value.slice a n c).ownBlock) (h:aB w b cs T) (hT:T≠55):aB w' b cs T:=by
 rcases NG ho hg with h1|⟨g,cs',hb,_,h1⟩
 ·exact h.grown h1 (fun e=>by cases e)
 ·exact h.grown h1 (fun e=>lQ h hb hT (aJ e).symm)
theorem TQ (ho:Own w B 55 10 (.slice a n c) n xs) (hg:w.grownBy w' (Value.slice a n c).ownBlock) (h:nW w B' v ps):nW w' B' v ps:=
 ⟨iK ho hg h.own (by decide),fun i p hp=>iK ho hg (h.each i p hp) (by decide),h.apart⟩
theorem Da {t:Tb} (ho:Own w B 55 10 (.slice a n c) n xs) (hg:w.grownBy w' (Value.slice a n c).ownBlock) (h:qG w B' cs t):qG w' B' cs t:=
 ⟨h.sz,fun k hk=>by obtain⟨v,h1,h2⟩:=h.own k hk;exact⟨v,h1,iK ho hg h2 (by decide)⟩,h.apart⟩
theorem mach_size:(Tryz.prog.info? 41).map (·.size)=some 11:=by kernel_rfl
theorem slsp_size:(Tryz.prog.info? 39).map (·.size)=some 1:=by kernel_rfl
end Go.Proofs.YtjkkoeijlhfneaaGreat