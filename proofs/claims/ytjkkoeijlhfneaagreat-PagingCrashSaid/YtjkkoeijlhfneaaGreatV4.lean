import Derived.Test.YtjkkoeijlhfneaaGreatV3
import Derived.BigRegion
import Derived.Lib.AppendZerosOnto
import Derived.Lib.Overlaps
import Derived.Lib.SliceRun
import Derived.Laws.Externs
import Derived.Laws.IdiomCopy
import Derived.Deep.RegionLaw
import Derived.Deep.LoopGhost
import Derived.BigQuiet
import Derived.Deep.OwnRows
import Derived.Deep.DeepCutAuto
set_option linter.unusedSimpArgs false
set_option linter.unusedVariables false
set_option maxHeartbeats 4000000
set_option maxRecDepth 100000
namespace Go.Proofs.YtjkkoeijlhfneaaGreat
open _root_.Go.Proofs.Tryz
open Go.RowKit Go.Maps Pw
variable {B B' B0 b c c' f g i j k n off p sz:Nat} {H H' H0 H1 H2:MH} {P:Program} {Q:Exit → Act → World → Prop} {T T' e t:TypeId} {a a':Option Addr} {cs cs' cur:Array Value} {m:Ma} {o:Oper} {ops:Array Oper} {ps:List PF} {v:Value} {vs xs:List Value} {w w' w0 w1 w2:World} {x:Operand} {ρ:Operand → Value}
theorem jH {α:Type} {enc:α→List Value} (hsz:∀x,(enc x).length=sz) (hp:0<sz) {l:List α} (h:dN w a (l.flatMap enc)) (k:Nat) (hk:k<l.length) :
  ∃b off,a=some ⟨b,off,none⟩∧dN w (some ⟨b,off+k*sz,none⟩) (enc l[k]):=by
 obtain⟨b,off,ha,hc⟩:=h.elem hsz hp k hk;exact⟨b,off,ha,fun j u hj=>⟨b,off+k*sz,rfl,hc j u hj⟩⟩
theorem bF (h:aC w b cs T) (o n:Nat):dN w (some ⟨b,o,none⟩) ((cs.toList.drop o).take n):=by
 intro i u hi;refine⟨b,o,rfl,?_⟩;rw[h.cell,←tO];rw[lL] at hi;split at hi
 ·rw[qN] at hi;exact hi
 ·cases hi
def uE (H:MH) (e:Int):Array Value:=#[.slice H.af H.m.fs.length H.cf,.int .i64 H.m.hand,.slice H.asl H.sl.length H.csl,.slice H.wb H.sw.blocks.length H.cwb,.slice H.wq H.sw.queue.length H.cwq,
 .slice H.db H.dk.blocks.length H.cdb,.slice H.dq H.dk.queue.length H.cdq,.slice H.ai H.fi.length H.ci,.int .i64 H.ct,.slice H.ac H.ca.length H.cc,.slice H.ap H.sp.length H.cp,.int .i64 e]
def oB (a:Option Addr):Option Nat:=(Value.slice a 0 0).ownBlock
theorem lI (a:Option Addr) (n c:Nat):(Value.slice a n c).ownBlock=oB a:=by cases a<;>rfl
structure kR (w:World) (B b:Nat) (H:MH) (e:Int):Prop where
 blk:aC w b (uE H e) 96
 ge:B≤b
 ma:uj w B H
 tz:∀p∈H.sp,Ey p.tb
def kb (b:Nat) (H:MH) (x:Nat):Prop:=x=b∨oB H.af=some x∨oB H.ac=some x∨oB H.ap=some x
structure KS (w0:World) (b:Nat) (H0:MH) (w:World) (H:MH):Prop where
 os:w.os=w0.os
 tape:w.tape=w0.tape
 output:w.output=w0.output
 size:w0.heap.size≤w.heap.size
 keep:∀x,x<w0.heap.size→¬kb b H0 x→w.heap[x]?=w0.heap[x]?
 sn:∀x,kb b H x→kb b H0 x∨w0.heap.size≤x
theorem KS.refl (w:World) (b:Nat) (H:MH):KS w b H w H:=⟨rfl,rfl,rfl,ay _,fun _ _ _=>rfl,fun _ h => .inl h⟩
theorem KS.trans (h:KS w0 b H0 w1 H1) (k:KS w1 b H1 w2 H2):KS w0 b H0 w2 H2:=
 ⟨k.os.trans h.os,k.tape.trans h.tape,k.output.trans h.output,aX h.size k.size,fun x hx hn=>(k.keep x (pX hx h.size) (fun hk=>(h.sn x hk).elim hn (fun hh=>absurd hx (BN.2 hh)))).trans (h.keep x hx hn),
  fun x hx=>(k.sn x hx).elim (h.sn x) (fun hh => .inr (aX h.size hh))⟩
theorem KS.below (h:KS w0 b H0 w H) (hb:Below w.heap.size w w'):KS w0 b H0 w' H:=
 ⟨hb.os.trans h.os,hb.tape.trans h.tape,hb.output.trans h.output,aX h.size hb.size,fun x hx hn=>(hb.block x (pX hx h.size)).trans (h.keep x hx hn),h.sn⟩
theorem KS.put {y:Nat} (h:KS w0 b H0 w H) (hg:w.grownBy w' (some y)) (hy:kb b H y) (hn:∀x,kb b H' x→kb b H x∨w0.heap.size≤x):KS w0 b H0 w' H':=
 ⟨hg.os.trans h.os,hg.tape.trans h.tape,hg.output.trans h.output,aX h.size hg.size,fun x hx hnx=>(hg.block x (pX hx h.size) (fun e=>by have e' : x=y:=aJ e;rw[←e'] at hy;exact (h.sn x hy).elim hnx (fun hh=>absurd hx (BN.2 hh)))).trans (h.keep x hx hnx),fun x hx=>(hn x hx).elim (h.sn x) .inr⟩
theorem kR.lt {e:Int} (h:kR w B b H e):b<w.heap.size:=h.blk.lt
theorem kR.bs {e:Int} (h:kR w B b H e):B≤w.heap.size:=aX h.ge (qi h.lt)
theorem kR.below {e:Int} (h:kR w B b H e) (hb:Below w.heap.size w w'):kR w' B b H e:=⟨h.blk.ext hb,h.ge,h.ma.below hb,h.tz⟩
theorem iK (h:Own w B e sz (.slice a n c) n xs) {x:Nat} (hx:oB a=some x):B≤x∧∃cs,aC w x cs e:=by
 rw[←lI a n c] at hx;exact⟨h.ge x hx,kM h x hx⟩
theorem kR.kb_ge {e:Int} (h:kR w B b H e) {x:Nat} (hx:kb b H x):B≤x:=by
 rcases hx with hx|hx|hx|hx
 ·rw[hx];exact h.ge
 ·exact (iK h.ma.fr hx).1
 ·exact (iK h.ma.ca hx).1
 ·exact (iK h.ma.sp hx).1
theorem kR.kb_T {e:Int} (h:kR w B b H e) {x:Nat} (hx:kb b H x):∃cs T,aC w x cs T∧(T=96∨T=81∨T=106∨T=55):=by
 rcases hx with hx|hx|hx|hx
 ·rw[hx];exact⟨_,_,h.blk,.inl rfl⟩
 ·obtain⟨cs,hb⟩:=(iK h.ma.fr hx).2;exact⟨cs,_,hb,.inr (.inl rfl)⟩
 ·obtain⟨cs,hb⟩:=(iK h.ma.ca hx).2;exact⟨cs,_,hb,.inr (.inr (.inl rfl))⟩
 ·obtain⟨cs,hb⟩:=(iK h.ma.sp hx).2;exact⟨cs,_,hb,.inr (.inr (.inr rfl))⟩
theorem KS.to {e:Int} (h:kR w0 B b H0 e) (hs:KS w0 b H0 w H) (hB:B0≤B):Below B0 w0 w:=
 ⟨hs.os,hs.tape,hs.output,hs.size,fun x hx=>hs.keep x (by have:=h.bs;omega) (fun hk=>by have:=h.kb_ge hk;omega)⟩
theorem KS.blk {x:Nat} {e:Int} (hs:KS w0 b H0 w H) (h:kR w0 B b H0 e) (hk:aC w0 x cs T) (hT:T≠96∧T≠81∧T≠106∧T≠55):aC w x cs T:=by
 refine (hs.keep x hk.lt fun hx => ?_).trans hk;obtain⟨cs',T',hb,h4⟩:=h.kb_T hx;unfold aC at hk hb;rw[hk] at hb;simp only[iM,rY] at hb;obtain⟨t1,t2,t3,t4⟩:=hT;rcases h4 with e|e|e|e
 ·exact t1 (hb.2.1.trans e)
 ·exact t2 (hb.2.1.trans e)
 ·exact t3 (hb.2.1.trans e)
 ·exact t4 (hb.2.1.trans e)
theorem KS.blkN {x:Nat} (hs:KS w0 b H0 w H) (hk:aC w0 x cs T) (hx:¬kb b H0 x):aC w x cs T:=(hs.keep x hk.lt hx).trans hk
theorem KS.own {e:Int} (hs:KS w0 b H0 w H) (h:kR w0 B b H0 e) (ho:Own w0 B' t sz v n xs) (hT:t≠96∧t≠81∧t≠106∧t≠55):Own w B' t sz v n xs:=
 ⟨ho.1,ho.2.imp id fun⟨g,off,cap,cur,hv,hB,hk,r⟩=>⟨g,off,cap,cur,hv,hB,hs.blk h hk hT,r⟩⟩
theorem uj.keepK {e:Int} (h:kR w B b H e) (hg:w.grownBy w' (some b)):uj w' B H:=h.ma.keep h.blk (by decide) hg
theorem kR.setM {e:Int} (h:kR w B b H e) {m:Mem} (ho:Own w B 81 13 (.slice a m.fs.length c) m.fs.length (m.fs.flatMap pO)) (hb:aC w' b (bA (uE H e) 0 [.slice a m.fs.length c,.int .i64 m.hand]) 96) (hg:w.grownBy w' (some b)) :
  kR w' B b { H with af:=a,cf:=c,m:=m } e:=
 ⟨hb,h.ge,{ uj.keepK h hg with fr:=ak ho h.blk (by decide) hg },h.tz⟩
theorem kR.setL {e:Int} (h:kR w B b H e) {l:List Int} (ho:Own w B 3 1 (.slice a l.length c) l.length (l.map fM)) (hb:aC w' b (bA (uE H e) 2 [.slice a l.length c]) 96) (hg:w.grownBy w' (some b)) :
  kR w' B b { H with asl:=a,csl:=c,sl:=l } e:=
 ⟨hb,h.ge,{ uj.keepK h hg with sl:=ak ho h.blk (by decide) hg },h.tz⟩
theorem kR.setW {e:Int} (h:kR w B b H e) {d:mZ} (ho:ic w B (.slice a d.blocks.length c) (.slice a' d.queue.length c') d) (hb:aC w' b (bA (uE H e) 3 [.slice a d.blocks.length c,.slice a' d.queue.length c']) 96) (hg:w.grownBy w' (some b)) :
  kR w' B b { H with wb:=a,cwb:=c,wq:=a',cwq:=c',sw:=d } e:=
 ⟨hb,h.ge,{ uj.keepK h hg with sw:=ho.keep h.blk (by decide) (by decide) hg },h.tz⟩
theorem kR.setD {e:Int} (h:kR w B b H e) {d:mZ} (ho:ic w B (.slice a d.blocks.length c) (.slice a' d.queue.length c') d) (hb:aC w' b (bA (uE H e) 5 [.slice a d.blocks.length c,.slice a' d.queue.length c']) 96) (hg:w.grownBy w' (some b)) :
  kR w' B b { H with db:=a,cdb:=c,dq:=a',cdq:=c',dk:=d } e:=
 ⟨hb,h.ge,{ uj.keepK h hg with dk:=ho.keep h.blk (by decide) (by decide) hg },h.tz⟩
theorem kR.setS {e:Int} (h:kR w B b H e) {k:Int} (ho:nM w B (.slice a ps.length c) ps) (hk : -9223372036854775808≤k∧k≤9223372036854775807) (hb:aC w' b (bA (uE H e) 7 [.slice a ps.length c,.int .i64 k]) 96) (hg:w.grownBy w' (some b)) :
  kR w' B b { H with ai:=a,ci:=c,fi:=ps,ct:=k } e:=
 ⟨hb,h.ge,{ uj.keepK h hg with st:=ho.keep h.blk (by decide) (by decide) hg,c64:=hk },h.tz⟩
theorem kR.setE {e e' : Int} (h:kR w B b H e) (hb:aC w' b (bA (uE H e) 11 [.int .i64 e']) 96) (hg:w.grownBy w' (some b)):kR w' B b H e':=
 ⟨hb,h.ge,uj.keepK h hg,h.tz⟩
def KR (w:World) (B b:Nat) (H:MH) (w' : World) (k:Kp):Prop:=∃H' e',kR w' B b H' e'∧KS w b H w' H'∧Kp.mk H'.ma e' = k
theorem GK (h1:H'.af=H.af) (h2:H'.ac=H.ac) (h3:H'.ap=H.ap) {x:Nat} (hx:kb b H' x):kb b H x:=by
 unfold kb at hx ⊢; rw[h1,h2,h3] at hx;exact hx
theorem KS.putB (h:KS w0 b H0 w H) (hg:w.grownBy w' (some b)) (h1:H'.af=H.af) (h2:H'.ac=H.ac) (h3:H'.ap=H.ap):KS w0 b H0 w' H':=
 h.put hg (.inl rfl) fun x hx => .inl (GK h1 h2 h3 hx)
theorem KS.putF (h:KS w0 b H0 w H) (hg:w.grownBy w' (some b)) (ho:Own w B' t sz (.slice H'.af n c) n xs) (hB:w0.heap.size≤B') (h2:H'.ac=H.ac) (h3:H'.ap=H.ap):KS w0 b H0 w' H':=
 h.put hg (.inl rfl) fun x hx=>by
  rcases hx with hx|hx|hx|hx
  ·exact .inl (.inl hx)
  ·exact .inr (aX hB (iK ho hx).1)
  ·exact .inl (.inr (.inr (.inl (by rw[←h2];exact hx))))
  ·exact .inl (.inr (.inr (.inr (by rw[←h3];exact hx))))
theorem MC {row:Option Nat} (hb:Below w.heap.size w w1) (hg:w1.grownBy w2 row):w.grownBy w2 row:=
 ⟨hg.os.trans hb.os,hg.tape.trans hb.tape,hg.output.trans hb.output,aX hb.size hg.size,fun k hk hn=>(hg.block k (pX hk hb.size) hn).trans (hb.block k hk)⟩
def Qu (k B:Nat) (T:TypeId) (R:lX):vN:=⟨fun y w => ∃g cc,y k = .pointer (some ⟨g,0,none⟩)∧B≤g∧aC w g cc T∧R.r (.agg cc) w,[k],
 fun y w w' hb ⟨g,cc,h1,h2,h3,h4⟩=>⟨g,cc,h1,h2,h3.ext hb,R.st _ _ _ hb h4⟩,fun y y' w h ⟨g,cc,h1,h2⟩=>⟨g,cc,by rw[←h k (bq.2 rfl)];exact h1,h2⟩⟩
theorem bR (h:cs.all (·.oneCell')=true):∀u∈cs.toList,u.oneCell' = true:=by
 rw[←ky,dL] at h;exact h
theorem CR (H:MH):H.ma.sp.length=H.sp.length:=fe _
theorem yO {l:List Cc} (h:dN w a (l.flatMap mh)) (k:Nat) (hk:k<l.length):∃b off,a=some ⟨b,off,none⟩∧dN w (some ⟨b,off+k*3,none⟩) (mh l[k]):=jH oV (by decide) h k hk
theorem rz (e:Int):jd e 0=e:=by unfold jd;split<;>simp_all
theorem SQ {e:Int} (h:e≠0) (er:Int):jd e er=e:=by unfold jd;rw[if_neg h]
theorem kR.rdM {e:Int} (h:kR w B b H e):dN w (some ⟨b,0,none⟩) [.slice H.af H.m.fs.length H.cf,.int .i64 H.m.hand]:=bF h.blk 0 2
theorem kR.rdW {e:Int} (h:kR w B b H e):dN w (some ⟨b,3,none⟩) [.slice H.wb H.sw.blocks.length H.cwb,.slice H.wq H.sw.queue.length H.cwq]:=bF h.blk 3 2
theorem kR.rdD {e:Int} (h:kR w B b H e):dN w (some ⟨b,5,none⟩) [.slice H.db H.dk.blocks.length H.cdb,.slice H.dq H.dk.queue.length H.cdq]:=bF h.blk 5 2
theorem kR.rdS {e:Int} (h:kR w B b H e):dN w (some ⟨b,7,none⟩) [.slice H.ai H.fi.length H.ci,.int .i64 H.ct]:=bF h.blk 7 2
theorem tY (H:MH) (e er:Int) (B b:Nat) (w:World) (h:kR w B b H e) :
  Calls Tryz.prog 89 #[.pointer (some ⟨b,0,none⟩),.int .i64 er] w fun r w'=>r = .returned (.tuple #[])∧kR w' B b H (jd e er)∧w.grownBy w' (some b):=by
 have hc:=h.blk.cell;have hf:=h.blk.free;unfold uE at hc;go_enter func89,ntmps89
 by_cases h0:e=0
 ·have hg:=aH w b 11 [.int .i64 er];have hb:=h.blk.setCells [.int .i64 er] 11;have hfin:Hid (jd e er=er):=Lib.hid (by unfold jd;rw[if_pos h0]);have h':=Lib.hid h;clear h;go_wp2;simp[bodyPost,results,go_sem,results89];rw[hfin.out];exact⟨h'.out.setE hb hg,hg⟩
 go_wp2;simp[bodyPost,results,go_sem,results89];rw[SQ h0];exact⟨h,Ht _ _⟩
theorem QZ (H:MH) (e f n:Int) (B b:Nat) (w:World) (h:kR w B b H e) :
  Calls Tryz.prog 80 #[.pointer (some ⟨b,0,none⟩),.int .i64 f,.int .i64 n] w fun r w'=>r = .returned (.tuple #[])∧∃H' e',kR w' B b H' e'∧KS w b H w' H'∧Kp.mk H'.ma e' = iE ⟨H.ma,e⟩ f n∧H'.sp=H.sp:=by
 go_enter func80,ntmps80
 go_wp2_with (refine ax _ _ rfl b 0 rfl rfl _ h.rdM _ underlying28 rfl mem_size ?_)
 refine (PQ H.m f n _ _ _ h.ma.rd.fr).mono ?_;rintro r w1 ⟨vb,rfl,ho,hb1⟩;obtain⟨a1,c1,rfl,_⟩:=Cx ho;have hBs:=Lib.hid h.bs;have h1:=h.below hb1;have s1:=(KS.refl w b H).below hb1
 go_wp2_with (refine aI rfl _ _ _ rfl #[.slice a1 (lC H.m f n).fs.length c1,.int .i64 (lC H.m f n).hand] rfl rfl rfl mem_size (jc _ _ _ _) ?_)
 intro w2 hb2 hx2;have h2:=h1.below hb2;have s2:=s1.below hb2;have ho2:=ho.below hb2;clear h1 s1 ho hb2
 go_wp2_with fail
 refine (tY _ e (mV H.m f n) _ _ _ h2).mono ?_;rintro r w3 ⟨rfl,h3,hg3⟩;have s3:=s2.putB hg3 rfl rfl rfl;have ho3:=ak ho2 h2.blk (by decide) hg3;have hx3:=bu hx2 h2.blk (by decide) hg3;clear h2 s2 ho2 hx2 hg3
 by_cases h0:mV H.m f n=0
 ·rw[h0,rz] at h3;have hq:Hid (iE ⟨H.ma,e⟩ f n=⟨{ H.ma with m:=lC H.m f n },e⟩):=Lib.hid (by unfold iE;exact if_pos h0);have hx:=hx3.cell;clear h;rw[h0]
  go_wp2_with (first | (refine ax _ _ rfl _ 0 rfl rfl [.slice a1 (lC H.m f n).fs.length c1,.int .i64 (lC H.m f n).hand] (bF hx3 0 2) _ underlying28 rfl mem_size ?_) | (refine fP rfl _ _ _ rfl b 0 _ rfl rfl _ _ h3.blk (by show 0+2≤12;decide) mem_size (jc _ _ _ _) ?_))
  intro w4 hb4 hg4;have h4:=h3.setM (ho3.mono hBs.out) hb4 hg4;go_wp2;simp[bodyPost,results,go_sem,results80];rw[hq.out];exact⟨_,_,h4,s3.putF hg4 ho3 (ay _) rfl rfl,rfl,rfl⟩
 have hq:Hid (iE ⟨H.ma,e⟩ f n=⟨H.ma,jd e (mV H.m f n)⟩):=Lib.hid (by unfold iE;exact if_neg h0);go_wp2;simp[bodyPost,results,go_sem,results80];rw[hq.out];exact⟨_,_,h3,s3,rfl,rfl⟩
theorem AB (H:MH) (e f n:Int) (B b:Nat) (w:World) (h:kR w B b H e) :
  Calls Tryz.prog 80 #[.pointer (some ⟨b,0,none⟩),.int .i64 f,.int .i64 n] w fun r w'=>r = .returned (.tuple #[])∧KR w B b H w' (iE ⟨H.ma,e⟩ f n):=
 (QZ H e f n B b w h).mono fun r w' ⟨h1,H',e',h2,h3,h4,_⟩=>⟨h1,H',e',h2,h3,h4⟩
theorem bv {y:Operand} {k:IntKind} (ho:o.op = .indexAddr t x y) (hx:ρ x = .slice (some ⟨b,off,none⟩) n c) (hy:ρ y = .int k (i:Int)) (hi:i<n)
 (hu:P.underlying t=some (.slice e)) (hs:(P.info? e).map (·.size)=some sz):(execOp ρ o).run P w = .ok (.value (.pointer (some ⟨b,off+i*sz,none⟩))) w:=by
 obtain⟨inf,hinf,hsz⟩:∃inf,P.info? e=some inf∧inf.size=sz:=by
  cases h:P.info? e with
  | none=>rw[h] at hs;cases hs
  | some inf=>rw[h] at hs;exact⟨inf,rfl,by simpa using hs⟩
 have hso:(Go.sizeOf e).run P w = .ok sz w:=by simp[Go.sizeOf,typeInfo,hinf,go_sem,hsz]
 simp[execOp,go_sem,ho,hx,hy,hu,hso,hi]
theorem uz {o:Nat} (h:dN w (some ⟨b,o,none⟩) vs) (d n:Nat):dN w (some ⟨b,o+d,none⟩) ((vs.drop d).take n):=by
 intro i u hi;rw[lL] at hi;split at hi
 ·rw[qN] at hi;obtain⟨b',o',e,hc⟩:=h (d+i) u hi;cases e;exact⟨_,_,rfl,by rw[mU];exact hc⟩
 ·cases hi
theorem vv {o:Nat} (r:List Value) (h:cur[o]?=some v):bA cur o (v::r)=bA cur (o+1) r:=by
 have:cur.setIfInBounds o v=cur:=by
  apply mg;intro i;rw[zM]
  by_cases e:o=i
  ·subst e;rw[if_pos rfl,if_pos (gW.1 h).1,h]
  ·rw[if_neg e]
 show bA (cur.setIfInBounds o v) (o+1) r=_;rw[this]
theorem Ah (h:Own w B e sz (.slice (some ⟨g,off,none⟩) n c) n xs) (hb:aC w g cur e):∀j u,xs[j]?=some u→cur[off+j]?=some u:=by
 rcases h.2 with ⟨h1,_⟩|⟨g',off',cap',cur',hv,_,hk,_,_,_,ht⟩
 ·cases h1
 cases hv;have:cur=cur':=by unfold aC at hb hk;rw[hb] at hk;simpa using hk
 subst this;exact ht
theorem kR.setT {e:Int} (h:kR w B b H e) {P:PS} (hP:H.sp[p]?=some P) :
  ∃g off cur,H.ap=some ⟨g,off,none⟩∧B≤g∧aC w g cur 55∧off+p*10+2+8≤cur.size∧dN w (some ⟨g,off+p*10,none⟩) (tF P) ∧
   ∀(w' : World) (v:Vector Value 8) (t:Tb),qD w B (ng v) t→Ey t→aC w' g (bA cur (off+p*10+2) (ng v).toList) 55→w.grownBy w' (some g)→kR w' B b { H with sp:=H.sp.set p { P with ts:=v,tb:=t } } e:=by
 have hp:=(bW.1 hP).1;have hPe:=(bW.1 hP).2;obtain⟨g,off,cap,cur,hv,hB,hblk,hfit,hset⟩:=kW rQ (by decide) rfl h.ma.sp p hp;simp only[lY] at hv;obtain⟨hap,_,hcp⟩:=hv;have hsp:=h.ma.sp;rw[hap] at hsp;have hcell:=Ah hsp hblk;have hat:∀j u,(tF P)[j]?=some u→cur[off+p*10+j]?=some u:=fun j u hj=>by rw[mU];exact hcell _ _ (flat_get tF 10 rQ H.sp p hp j u (by rw[hPe];exact hj))
 refine⟨g,off,cur,hap,hB,hblk,by omega,fun j u hj=>⟨g,_,rfl,by rw[hblk.cell];exact hat j u hj⟩,fun w' v t ht htz hb hg => ?_⟩;have e1:bA cur (off+p*10) (tF { P with ts:=v,tb:=t })=bA cur (off+p*10+2) (ng v).toList:=by show bA cur (off+p*10) (.bool P.lv :: .slice P.aa P.ar.length P.ac::(ng v).toList)=_;rw[vv _ (by simpa using hat 0 _ rfl),vv _ (hat 1 _ rfl)]
 rw[←e1] at hb;have hlen:(H.sp.set p { P with ts:=v,tb:=t }).length=H.sp.length:=bI;have hbk:b≠g:=fun e=>by have h1:=h.blk;subst e;unfold aC at h1 hblk;rw[h1] at hblk;simp only[iM,rY] at hblk;exact absurd hblk.2.1 (by decide)
 refine⟨?_,h.ge,⟨ak h.ma.fr hblk (by decide) hg,ak h.ma.sl hblk (by decide) hg,h.ma.sw.keep hblk (by decide) (by decide) hg,h.ma.dk.keep hblk (by decide) (by decide) hg,h.ma.st.keep hblk (by decide) (by decide) hg,ak h.ma.ca hblk (by decide) hg,?_,fun q hq => ?_,h.ma.c64⟩,fun q hq => ?_⟩
 ·have:uE { H with sp:=H.sp.set p { P with ts:=v,tb:=t } } e=uE H e:=by unfold uE;simp only[hlen]
  rw[this];exact h.blk.grown hg (fun e=>hbk (aJ e).symm)
 ·simp only[hlen];exact hset w' _ hb
 ·rcases mM hq with hq|rfl
  ·exact⟨ak (h.ma.ps q hq).1 hblk (by decide) hg,(h.ma.ps q hq).2.keep hblk (by decide) hg⟩
  ·exact⟨ak (h.ma.ps P (bQ hP)).1 hblk (by decide) hg,ht.keep hblk (by decide) hg⟩
 rcases mM hq with hq|rfl
 ·exact h.tz q hq
 ·exact htz
theorem zD {P:PS} (hP:H.sp[p]?=some P):fq H.ma p=P.sp:=by
 unfold fq MH.ma;simp only;rw[aW,jM,hP];rfl
theorem MV {P:PS} (hP:H.sp[p]?=some P) (v:Vector Value 8) (t:Tb):MH.ma { H with sp:=H.sp.set p { P with ts:=v,tb:=t } }=setTb H.ma p t:=by
 unfold setTb;rw[zD hP];unfold MH.ma;simp only[Cs];rfl
theorem Sc {v:Vector Value 8} {t:Tb} (h:EE w (ng v) t):∀u∈(ng v).toList,u.oneCell' = true:=by
 have:=h.one;rw[←ky,dL] at this;exact this
theorem Ub {t:Tb} {n:Int} {e:En}:Ey (setT t n e):=by
 by_cases h:setE t n e=0
 ·exact Ji (yj h)
 ·rw[vZ h];exact Ji zTb_right
def Ov (B:Nat) (t:Tb) (n:Int) (x:En):lX:=⟨fun v w => ∃cs,v = .tuple #[.agg cs,.int .i64 (setE t n x)]∧qD w B cs (setT t n x),fun _ _ _ hb ⟨cs,h1,h2⟩=>⟨cs,h1,h2.below hb⟩⟩
def Kh (B:Nat) (t:Tb):lX:=⟨fun v w => ∃cs,v = .agg cs∧qD w B cs t,fun _ _ _ hb ⟨cs,h1,h2⟩=>⟨cs,h1,h2.below hb⟩⟩
theorem uK (H:MH) (e n:Int) (p:Nat) (x:En) (B b:Nat) (w:World) (h:kR w B b H e) (hp:p<H.sp.length) :
  Calls Tryz.prog 79 #[.pointer (some ⟨b,0,none⟩),.int .i64 p,.int .i64 n,.agg (jk x)] w fun r w'=>r = .returned (.tuple #[])∧KR w B b H w' (jT ⟨H.ma,e⟩ p n x):=by
 obtain⟨P,hP⟩:∃P,H.sp[p]?=some P:=⟨_,aG hp⟩;have hsp:=Lib.hid (zD hP);have hBs:=Lib.hid h.bs;have hPm:=bQ hP;go_enter func79,ntmps79;go_upto_region 1 with (fail);refine gI (fun W=>Code.wp _ _ _ _ W) fun w1 hb1 hx1 hs1 => ?_;have h1:=h.below hb1;have s1:=(KS.refl w b H).below hb1;clear h hs1;obtain⟨g,off,cur,hap,hBg,hblk,hfit,hrd,hset⟩:=h1.setT hP;refine mW 18 [_,_,_,_,_,_,_,_,_,_,_,.r 11 ((Ov w1.heap.size P.tb n x)),.r 12 ((Ov w1.heap.size P.tb n x)),.r 13 ((Kh w1.heap.size (setT P.tb n x))),.v (.int .i64 (setE P.tb n x)),.r 15 ((kv w1.heap.size 53 8)),.y 16 ((Qu 15 w1.heap.size 53 (Kh w1.heap.size (setT P.tb n x)))),.v (.int .i64 (setE P.tb n x))] (fun W=>Below w1.heap.size w1 W) gB (Below.refl _ _) (Yk gB rfl (Yk gB rfl (Yf gB b 0 rfl rfl (Yf gB b 10 rfl rfl (Yc gB (.slice (some ⟨g,off,none⟩) H.sp.length H.cp) (fun W hb=>by simp[(h1.below hb).blk.cell,uE,hap]) rfl rfl rfl rfl (Yk gB rfl (Yr gB (.pointer (some ⟨g,off+p*10,none⟩)) (fun ρ y W hb hKn=>(bv rfl (aD rfl hKn) (aD rfl hKn) hp underlying39 space_size)) rfl rfl (Yf gB g (off+p*10+2) rfl rfl (Yr gB (.agg (ng P.ts)) (fun ρ y W hb hKn=>(bB rfl (aD rfl hKn) (uz (hrd.below hb) 2 8) underlying53 tab_agg tab_size)) rfl rfl (Yk gB rfl (Yr gB (.agg (jk x)) (fun ρ y W hb hKn=>(dx rfl (aD rfl hKn) (hx1.ext hb) underlying89 rfl entry_size)) rfl rfl (ag ?_ (ag ?_ (ag ?_ (ag ?_ (ag ?_ (ag ?_ (Yk gB rfl (aB))))))))))))))))))) (fun _=>rfl) rfl ?_
 ·intro ρ y W hw hn hb hd;refine lM gB hb ((Ov w1.heap.size P.tb n x)) (fun _ _ h=>h) ?_;have E19:=hw 19 8 rfl;have h8:y 8 = .agg (ng P.ts):=hd 8 rfl;have E20:=hw 20 9 rfl;have h9:y 9 = .int .i64 n:=hd 9 rfl;have E21:=hw 21 10 rfl;have h10:y 10 = .agg (jk x):=hd 10 rfl;have EF:∀f,ρ (.func f) = .func (.func f) #[] #[]:=fun f=>hn (.func f) trivial;refine aO _ _ (ah rfl) (aQ rfl (EF _) func118 (by kernel_rfl) (by kernel_rfl) (by simp only[bP,bM,bN,E19,h8,E20,h9,E21,h10,EF];rfl)) ?_;refine (QM P.tb (ng P.ts) n x W (((h1.below hb).ma.ps P hPm).2.rd) (h1.tz P hPm)).mono ?_;rintro r W2 ⟨cs,rfl,ho,hb2⟩;exact⟨_,rfl,hb2,cs,rfl,ho.mono hb.size⟩
 ·intro ρ y W hw hn hb hd;refine lM gB hb ((Ov w1.heap.size P.tb n x)) (fun _ _ h=>h) ?_;have E22:=hw 22 11 rfl;have h11:=hd 11 rfl;refine aj _ (ah rfl) (run_move (.inl rfl) E22) ?_;exact h11
 ·intro ρ y W hw hn hb hd;refine lM gB hb ((Kh w1.heap.size (setT P.tb n x))) (fun _ _ h=>h) ?_;have E10:=hw 10 12 rfl;have h12:=hd 12 rfl;obtain⟨cs,hcs,ho⟩:=h12;refine aj (.agg cs) (ah rfl) (by simp[execOp,go_sem,cZ,E10,hcs]) ?_;exact⟨cs,rfl,ho⟩
 ·intro ρ y W hw hn hb hd;refine lM gB hb (uy (.int .i64 (setE P.tb n x))) (fun _ _ h=>h) ?_;have E10:=hw 10 12 rfl;have h12:=hd 12 rfl;obtain⟨cs,hcs,ho⟩:=h12;refine aj (.int .i64 (setE P.tb n x)) (ah rfl) (by simp[execOp,go_sem,cZ,E10,hcs]) rfl
 ·intro ρ y W hw hn hb hd;refine lM gB hb ((kv w1.heap.size 53 8)) (fun _ _ h=>h) ?_;refine jL (.pointer (some ⟨W.heap.size,0,none⟩)) (ah rfl) (by simp[execOp,go_sem,cZ]) ((Below.refl _ _).alloc (ay _) (.cells #[.slice none 0 0,.slice none 0 0,.slice none 0 0,.slice none 0 0,.slice none 0 0,.slice none 0 0,.slice none 0 0,.slice none 0 0] 53)) ?_;exact⟨_,_,rfl,hb.size,aC.new _ _ _,rfl⟩
 ·intro ρ y W hw hn hb hd;have E8:=hw 8 15 rfl;have h15:=hd 15 rfl;have E23:=hw 23 13 rfl;have h13:=hd 13 rfl;obtain⟨cc,e7,ho7⟩:=h13;obtain⟨g3,cur3,e9,hg9,hb9,hs9⟩:=h15;have hsz7:=ho7.sz;refine rF (ah rfl) _ _ _ rfl g3 0 (.agg cc) cc.toList (E8.trans e9) (E23.trans e7) rfl cur3 _ hb9 (by rw[iC,hs9,hsz7];exact ay _) (by rw[iC,hsz7];exact tab_size) (bR ho7.rd.one) ?_;intro w1 hw1 hgr;rw[iO cur3 cc (by rw[hs9,hsz7])] at hw1;refine⟨hb.grown hgr hb.size (fun k hk=>by cases hk;exact hg9),⟨g3,cc,e9,hg9,hw1,⟨cc,rfl,ho7.keep hb9 (by decide) hgr⟩⟩,?_⟩;intro k hk hne
  match k,hk,hne with
  | 0,_,_=>exact fun h=>h
  | 1,_,_=>exact fun h=>h
  | 2,_,_=>exact fun h=>h
  | 3,_,_=>exact fun h=>h
  | 4,_,_=>exact fun h=>h
  | 5,_,_=>exact fun h=>h
  | 6,_,_=>exact fun h=>h
  | 7,_,_=>exact fun h=>h
  | 8,_,_=>exact fun h=>h
  | 9,_,_=>exact fun h=>h
  | 10,_,_=>exact fun h=>h
  | 11,_,_=>exact fun⟨c,q1,q2⟩=>⟨c,q1,q2.keep hb9 (by decide) hgr⟩
  | 12,_,_=>exact fun⟨c,q1,q2⟩=>⟨c,q1,q2.keep hb9 (by decide) hgr⟩
  | 13,_,_=>exact fun⟨c,q1,q2⟩=>⟨c,q1,q2.keep hb9 (by decide) hgr⟩
  | 14,_,_=>exact fun h=>h
  | 15,_,_=>exact fun q=>pF q hw1 (fun _=>hsz7) ⟨_,hb9⟩ hgr
  | 16,_,h=>exact absurd rfl h
  | 17,_,_=>exact fun h=>h
  | n+18,h,_=>exact absurd h (by omega)
 intro y W2 hbW2 hRW2;replace hbW2:Below w1.heap.size w1 W2:=hbW2;have hy11:((Ov w1.heap.size P.tb n x)).r (y 11) W2:=hRW2 11 (by decide);have hy12:((Ov w1.heap.size P.tb n x)).r (y 12) W2:=hRW2 12 (by decide);have hy13:((Kh w1.heap.size (setT P.tb n x))).r (y 13) W2:=hRW2 13 (by decide);have hy15:((kv w1.heap.size 53 8)).r (y 15) W2:=hRW2 15 (by decide);have hy16:=hRW2 16 (by decide);clear hRW2;simp only[bT,cZ,bM,bN];obtain⟨gx,cs2,hyx,hgx,hbx,ca2,hca2,ho2⟩:=hy16;simp only[Cy] at hca2;subst hca2;obtain⟨v2,rfl⟩:=QD ho2.sz;have h2:=h1.below hbW2;have s2:=s1.below hbW2;have hge1:=Lib.hid hb1.size;clear hy11 hy12 hy13 hy15 hset hrd hblk hfit hap h1 s1 hx1 hBg hb1 cur
 go_wp2_with fail
 refine (tY _ e (setE P.tb n x) _ _ _ h2).mono ?_;rintro r w3 ⟨rfl,k3,hg3⟩;have s3:=s2.putB hg3 rfl rfl rfl;have ho3:=ho2.keep h2.blk (by decide) hg3;have hx3:=bu hbx h2.blk (by decide) hg3;have hBg:=Lib.hid hgx;clear h2 s2 ho2 hbx hg3 hbW2 hgx;have hsE:Hid (setE (fq H.ma p).tb n x=setE P.tb n x):=Lib.hid (by rw[hsp.out];rfl)
 by_cases h0:setE P.tb n x=0
 ·rw[h0,rz] at k3;have hq:Hid (jT ⟨H.ma,e⟩ p n x=⟨setTb H.ma p (setT P.tb n x),e⟩):=Lib.hid (by unfold jT;simp only;rw[if_pos (hsE.out.trans h0),hsp.out];rfl);obtain⟨g,off,cur,hap,hBg',hblk,hfit,hrd,hset⟩:=k3.setT hP;have hx:=hx3.cell;have kc3:=k3.blk.cell;unfold uE at kc3;rw[hap] at kc3;rw[h0];go_upto_region 4 with (fail);refine aK 9 [_,_,_,_,_,_,_,_,_] (Gk rfl (Gk rfl (Gf b 0 rfl rfl (Gf b 10 rfl rfl (Gc (.slice (some ⟨g,off,none⟩) H.sp.length H.cp) (fun W hb=>by simp[(k3.below hb).blk.cell,uE,hap]) rfl rfl rfl rfl (Gk rfl (Gr (.agg (ng v2)) (fun ρ y W hb hKn=>(bB rfl (aD rfl hKn) ((hx3.ext hb).rd) underlying53 tab_agg tab_size)) rfl rfl (Gr (.pointer (some ⟨g,off+p*10,none⟩)) (fun ρ y W hb hKn=>(bv rfl (aD rfl hKn) (aD rfl hKn) hp underlying39 space_size)) rfl rfl (Gf g (off+p*10+2) rfl rfl (aB)))))))))) (fun _=>rfl) rfl ?_;intro y W4 hbW4 _
  go_wp2_with (refine fP rfl _ _ _ rfl g (off+p*10+2) (ng v2) rfl rfl _ _ (hblk.ext hbW4) hfit tab_size (by rw[←ky,dL];exact Sc ho3.rd) ?_)
  intro w5 hb5 hg5;have hg5':=MC hbW4 hg5;have k5:=hset w5 v2 (setT P.tb n x) (ho3.mono (aX hBs.out hge1.out)) Ub hb5 hg5';go_wp2;simp[bodyPost,results,go_sem,results79];rw[hq.out];refine⟨_,_,k5,s3.put hg5' (.inr (.inr (.inr (by rw[hap];rfl)))) fun y hy => .inl (GK rfl rfl rfl hy),?_⟩;rw[MV hP]
 have hq:Hid (jT ⟨H.ma,e⟩ p n x=⟨H.ma,jd e (setE P.tb n x)⟩):=Lib.hid (by unfold jT;simp only;rw[if_neg (by rw[hsE.out];exact h0),hsE.out]);go_wp2;simp[bodyPost,results,go_sem,results79];rw[hq.out];exact⟨_,_,k3,s3,rfl⟩
theorem slots_size:(Tryz.prog.info? 30).map (·.size)=some 1:=by kernel_rfl
def NP (B:Nat) (T:TypeId) (sz n:Nat) (xs:List Value) (er:Int):lX:=⟨fun v w => ∃u,v = .tuple #[u,.int .i64 er]∧Own w B T sz u n xs,fun _ _ _ hb ⟨u,h1,h2⟩=>⟨u,h1,h2.below hb⟩⟩
theorem kR.at {w:World} {B b:Nat} {H:MH} {e:Int} (h:kR w B b H e) {p:Nat} {P:PS} (hP:H.sp[p]?=some P):∃g off,H.ap=some ⟨g,off,none⟩∧dN w (some ⟨g,off+p*10,none⟩) (tF P)∧dN w (some ⟨g,off+p*10+2,none⟩) (ng P.ts).toList∧P.good w:=by
 have hp:=(bW.1 hP).1;obtain⟨g,off,P',ha,hP',hr⟩:=xH h.ma.rd.sp.rd p hp;rw[hP] at hP';cases hP';exact⟨g,off,ha,hr,uz hr 2 8,h.ma.rd.ps P (bQ hP)⟩
theorem KR.trans {k:Kp} (h:KS w0 b H0 w1 H1) (k2:KR w1 B b H1 w2 k):KR w0 B b H0 w2 k:=by
 obtain⟨H2,e2,h1,h2,h3⟩:=k2;exact⟨H2,e2,h1,h.trans h2,h3⟩
theorem Pn (H:MH) (e n:Int) (p:Nat) (B b:Nat) (w:World) (h:kR w B b H e) (hp:p<H.sp.length) :
  Calls Tryz.prog 102 #[.pointer (some ⟨b,0,none⟩),.int .i64 p,.int .i64 n] w fun r w'=>r = .returned (.tuple #[])∧KR w B b H w' (qd ⟨H.ma,e⟩ p n):=by
 obtain⟨P,hP⟩:∃P,H.sp[p]?=some P:=⟨_,aG hp⟩;have hsp:=Lib.hid (zD hP);obtain⟨g,off,hap,hrd,hrt,hgood⟩:=h.at hP;have hc:=h.blk.cell;unfold uE at hc;rw[hap] at hc;have hpi:(p:Int)<(H.sp.length:Int):=by omega
 go_enter func102,ntmps102
 go_wp2_with (refine ax _ _ rfl g (off+p*10+2) rfl rfl _ hrt _ underlying53 tab_agg tab_size ?_)
 refine (JD P.tb (ng P.ts) n _ hgood.tb).mono ?_;rintro r w1 ⟨rfl,hb1⟩;have h1:=h.below hb1;have s1:=(KS.refl w b H).below hb1;clear hc hrd hrt hgood;generalize hx:dG P.tb n=x
 go_wp2_with (refine aI rfl _ _ _ rfl (jk x) rfl rfl rfl entry_size (by simp[jk,Value.oneCell']) ?_)
 intro w2 hb2 hx2;have h2:=h1.below hb2;have s2:=s1.below hb2;clear h1 s1 hb1 hb2 h;have hc2:=hx2.cell;unfold jk at hc2;have hgx:Hid (dG (fq H.ma p).tb n=x):=Lib.hid (by rw[hsp.out];exact hx);clear hx
 by_cases hk1:x.k=1
 ·have hq:Hid (qd ⟨H.ma,e⟩ p n=jT (iE ⟨H.ma,e⟩ x.n (-1)) p n zEn):=Lib.hid (by unfold qd;simp only[hgx.out];rw[if_pos hk1]);have hk1':=Lib.hid hk1;rw[hk1] at hc2;clear hk1
  go_wp2_with fail
  refine (AB H e x.n (-1) B b _ h2).mono ?_;rintro r w3 ⟨rfl,H3,e3,h3,s3,q3⟩;have hl3:H3.sp.length=H.sp.length:=by
   have e1:H3.ma.sp=H.ma.sp:=by have:=congrArg (fun k=>k.m.sp) q3;simp only at this;rw[this];unfold iE;split<;>rfl
   have:=congrArg List.length e1;unfold MH.ma at this;simpa using this
  have s3':=s2.trans s3;have hq3:=Lib.hid q3;clear q3 s3 hc2
  go_wp2_with fail
  refine (uK H3 e3 n p zEn B b _ h3 (by rw[hl3];exact hp)).mono ?_;rintro r w4 ⟨rfl,hk4⟩;go_wp2;simp[bodyPost,results,go_sem,results102];rw[hq.out,←hq3.out];exact KR.trans s3' hk4
 by_cases hk2:x.k=2
 ·have hq:Hid (qd ⟨H.ma,e⟩ p n=jT (oL ⟨H.ma,e⟩ x.n (-1)) p n zEn):=Lib.hid (by unfold qd;simp only[hgx.out];rw[if_neg hk1,if_pos hk2]);rw[hk2] at hc2;clear hk1 hk2;have hck:=h2.blk.cell;unfold uE at hck;go_upto_region 5 with (fail);refine mW 13 [_,_,_,_,_,_,_,.r 7 ((NP w2.heap.size 3 1 (fZ H.sl x.n (-1)).length ((fZ H.sl x.n (-1)).map fM) (fV H.sl x.n (-1)))),.r 8 ((NP w2.heap.size 3 1 (fZ H.sl x.n (-1)).length ((fZ H.sl x.n (-1)).map fM) (fV H.sl x.n (-1)))),.r 9 ((oq w2.heap.size 3 1 (fZ H.sl x.n (-1)).length ((fZ H.sl x.n (-1)).map fM))),.v (.int .i64 (fV H.sl x.n (-1))),.r 11 ((oq w2.heap.size 3 1 (fZ H.sl x.n (-1)).length ((fZ H.sl x.n (-1)).map fM))),.v (.int .i64 (fV H.sl x.n (-1)))] (fun W=>Below w2.heap.size w2 W) gB (Below.refl _ _) (Yk gB rfl (Yk gB rfl (Yf gB b 0 rfl rfl (Yf gB b 2 rfl rfl (Yc gB (.slice H.asl H.sl.length H.csl) (fun W hb=>by simp[(h2.below hb).blk.cell,uE]) rfl rfl rfl rfl (Yf gB w1.heap.size 1 rfl rfl (Yc gB (.int .i64 x.n) (fun W hb=>by simp[(hx2.ext hb).cell,jk]) rfl rfl rfl rfl (ag ?_ (ag ?_ (ag ?_ (ag ?_ (ag ?_ (Yk gB rfl (aB)))))))))))))) (fun _=>rfl) rfl ?_
  ·intro ρ y W hw hn hb hd;refine lM gB hb ((NP w2.heap.size 3 1 (fZ H.sl x.n (-1)).length ((fZ H.sl x.n (-1)).map fM) (fV H.sl x.n (-1)))) (fun _ _ h=>h) ?_;have E35:=hw 35 4 rfl;have h4:y 4 = .slice H.asl H.sl.length H.csl:=hd 4 rfl;have E37:=hw 37 6 rfl;have h6:y 6 = .int .i64 x.n:=hd 6 rfl;have EC:∀v,ρ (.const v)=v:=fun v=>hn (.const v) trivial;have EF:∀f,ρ (.func f) = .func (.func f) #[] #[]:=fun f=>hn (.func f) trivial;refine aO _ _ (ah rfl) (aQ rfl (EF _) func78 (by kernel_rfl) (by kernel_rfl) (by simp only[bP,bM,bN,E35,h4,E37,h6,EC,EF];rfl)) ?_;have hm:=(h2.below hb).ma.rd.sl;refine (KM H.sl H.asl H.csl x.n (-1) W hm.le hm.nl hm.rd (by have:=hm.le;have:=hm.mx;unfold maxLen at this;omega)).mono ?_;rintro r W3 ⟨u,rfl,ho,hb3⟩;exact⟨_,rfl,hb3,u,rfl,ho.mono hb.size⟩
  ·intro ρ y W hw hn hb hd;refine lM gB hb ((NP w2.heap.size 3 1 (fZ H.sl x.n (-1)).length ((fZ H.sl x.n (-1)).map fM) (fV H.sl x.n (-1)))) (fun _ _ h=>h) ?_;have E38:=hw 38 7 rfl;have h7:=hd 7 rfl;refine aj _ (ah rfl) (run_move (.inl rfl) E38) ?_;exact h7
  ·intro ρ y W hw hn hb hd;refine lM gB hb ((oq w2.heap.size 3 1 (fZ H.sl x.n (-1)).length ((fZ H.sl x.n (-1)).map fM))) (fun _ _ h=>h) ?_;have E30:=hw 30 8 rfl;have h8:=hd 8 rfl;obtain⟨u,hu,ho⟩:=h8;refine aj u (ah rfl) (by simp[execOp,go_sem,cZ,E30,hu]) ?_;exact ho
  ·intro ρ y W hw hn hb hd;refine lM gB hb (uy (.int .i64 (fV H.sl x.n (-1)))) (fun _ _ h=>h) ?_;have E30:=hw 30 8 rfl;have h8:=hd 8 rfl;obtain⟨u,hu,ho⟩:=h8;refine aj (.int .i64 (fV H.sl x.n (-1))) (ah rfl) (by simp[execOp,go_sem,cZ,E30,hu]) rfl
  ·intro ρ y W hw hn hb hd;refine lM gB hb ((oq w2.heap.size 3 1 (fZ H.sl x.n (-1)).length ((fZ H.sl x.n (-1)).map fM))) (fun _ _ h=>h) ?_;have E39:=hw 39 9 rfl;have h9:=hd 9 rfl;refine aj _ (ah rfl) (run_move (.inr rfl) E39) ?_;exact h9
  intro y W3 hbW3 hRW3;replace hbW3:Below w2.heap.size w2 W3:=hbW3;have hy7:((NP w2.heap.size 3 1 (fZ H.sl x.n (-1)).length ((fZ H.sl x.n (-1)).map fM) (fV H.sl x.n (-1)))).r (y 7) W3:=hRW3 7 (by decide);have hy8:((NP w2.heap.size 3 1 (fZ H.sl x.n (-1)).length ((fZ H.sl x.n (-1)).map fM) (fV H.sl x.n (-1)))).r (y 8) W3:=hRW3 8 (by decide);have hy9:((oq w2.heap.size 3 1 (fZ H.sl x.n (-1)).length ((fZ H.sl x.n (-1)).map fM))).r (y 9) W3:=hRW3 9 (by decide);have hy11:((oq w2.heap.size 3 1 (fZ H.sl x.n (-1)).length ((fZ H.sl x.n (-1)).map fM))).r (y 11) W3:=hRW3 11 (by decide);clear hRW3;simp only[bT,cZ,bM,bN];have ho3:Own W3 w2.heap.size 3 1 (y 11) (fZ H.sl x.n (-1)).length ((fZ H.sl x.n (-1)).map fM):=hy11;obtain⟨a3,c3,e7,_⟩:=Own.rd ho3;rw[e7] at ho3;simp only[e7];have k3:=h2.below hbW3;have s3:=s2.below hbW3;have hge:=Lib.hid (aX h2.bs (ay _));have hws:=Lib.hid s2.size;clear hy7 hy8 hy9 hy11 e7 hc2 hck h2 s2 hx2 hbW3
  go_wp2_with fail
  refine (tY _ e (fV H.sl x.n (-1)) _ _ _ k3).mono ?_;rintro r w4 ⟨rfl,k4,hg4⟩;have s4:=s3.putB hg4 rfl rfl rfl;have ho4:=ak ho3 k3.blk (by decide) hg4;clear k3 s3 ho3 hg4
  by_cases h0:fV H.sl x.n (-1)=0
  ·rw[h0,rz] at k4;have hq2:Hid (oL ⟨H.ma,e⟩ x.n (-1)=⟨{ H.ma with sl:=fZ H.sl x.n (-1) },e⟩):=Lib.hid (by unfold oL;exact if_pos h0);rw[h0]
   go_wp2_with (refine aA rfl _ _ _ rfl b 2 _ [.slice a3 (fZ H.sl x.n (-1)).length c3] rfl rfl rfl _ _ k4.blk (by show 2+1≤12;decide) slots_size (fun u hu=>by cases bq.1 hu;rfl) ?_)
   intro w5 hb5 hg5;have k5:=k4.setL (ho4.mono hge.out) hb5 hg5;have s5:KS w b H w5 { H with asl:=a3,csl:=c3,sl:=fZ H.sl x.n (-1) }:=s4.putB hg5 rfl rfl rfl
   go_wp2_with fail
   refine (uK _ e n p zEn B b _ k5 hp).mono ?_;rintro r w6 ⟨rfl,hk6⟩;go_wp2;simp[bodyPost,results,go_sem,results102];rw[hq.out,hq2.out];exact KR.trans s5 hk6
  have hq2:Hid (oL ⟨H.ma,e⟩ x.n (-1)=⟨H.ma,jd e (fV H.sl x.n (-1))⟩):=Lib.hid (by unfold oL;exact if_neg h0)
  go_wp2_with fail
  refine (uK _ (jd e (fV H.sl x.n (-1))) n p zEn B b _ k4 hp).mono ?_;rintro r w6 ⟨rfl,hk6⟩;go_wp2;simp[bodyPost,results,go_sem,results102];rw[hq.out,hq2.out];exact KR.trans s4 hk6
 have hq:Hid (qd ⟨H.ma,e⟩ p n=⟨H.ma,e⟩):=Lib.hid (by unfold qd;simp only[hgx.out];rw[if_neg hk1,if_neg hk2]);go_wp2;simp[bodyPost,results,go_sem,results102];rw[hq.out];exact⟨_,_,h2,s2,rfl⟩
theorem lJ {a:Nat} (h:aC w a cs T) (h' : aC w b cs' T') (hT:T≠T'):a≠b:=by
 rintro rfl;unfold aC at h h';rw[h] at h';simp only[iM,rY] at h';exact hT h'.2.1
def UR (B:Nat) (m:Mem):lX:=⟨fun v w => ∃u,v = .agg #[u,.int .i64 m.hand]∧Own w B 81 13 u m.fs.length (m.fs.flatMap pO),fun _ _ _ hb ⟨u,h1,h2⟩=>⟨u,h1,h2.below hb⟩⟩
theorem mH (l:List Cc):(l.flatMap mh).length=l.length*3:=Pw.flat_len mh 3 oV l
theorem MK (c:Cc):∀u∈mh c,u.oneCell' = true:=bR (vB c)
theorem Gj (l:List Cc):∀u∈l.flatMap mh,u.oneCell' = true:=by
 intro u hu;obtain⟨c,_,hc⟩:=jP.1 hu;exact MK c u hc
def Le (B:Nat) (S:St):lX:=⟨fun v w => ∃u ps k,v = .agg #[u,.int .i64 k]∧nM w B u ps∧bZ ps k=S,fun _ _ _ hb ⟨u,ps,k,h1,h2,h3⟩=>⟨u,ps,k,h1,h2.below hb,h3⟩⟩
theorem Be {l:List Cc} {o:Nat} (h:∀j u,(l.flatMap mh)[j]?=some u→cur[o+j]?=some u):∀j u,((l.take k).flatMap mh)[j]?=some u→cur[o+j]?=some u:=by
 intro j u hj;refine h j u ?_
 conv=>lhs;rw[←qg k l,eT]
 rw[kV (by have:=(bW.1 hj).1;exact this)];exact hj
theorem IX {l:List Cc} (hk:k≤l.length) {o:Nat} (h:∀j u,(l.flatMap mh)[j]?=some u→cur[o+j]?=some u):∀j u,((l.drop k).flatMap mh)[j]?=some u→cur[o+k*3+j]?=some u:=by
 intro j u hj;rw[mU];refine h _ u ?_
 conv=>lhs;rw[←qg k l,eT]
 have hl1:((l.take k).flatMap mh).length=k*3:=by rw[mH,kK,wP hk]
 rw[kI (by omega),hl1,zP];exact hj
theorem Jj {a:Act} {K:Act→World→Prop} {E:Prop}
 (hg:o.guard=none) (d s:Operand) (t t' : TypeId) (hop:o.op=Op.call { callee:=.builtin .append,args:=#[d,s],argTypes:=#[t,t'] }) (vd vs v:Value)
 (hd:a.eval d=vd) (hx:a.eval s=vs) (hr:(Builtin.append_ #[t,t'] o.type #[vd,vs]).run P w = .ok v w') (hK:K (a.put o.dst v) w') :
  if Region.wanted o (yielded ops a.tmps)=true then Oper.wp P o a w K Q else E:=by
 have hw:Region.wanted o (yielded ops a.tmps)=true:=by simp[Region.wanted,hg]
 rw[if_pos hw];unfold Oper.wp;simp[execOp,hop,resolve,invoke,builtin,hd,hx,hr,Result.andThen];exact hK
theorem Em (l:List Cc) (k:Nat):(l.eraseIdx k).flatMap mh=(l.take k).flatMap mh++(l.drop (k+1)).flatMap mh:=by rw[List.eraseIdx_eq_take_drop_succ,eT]
theorem Ju (l:List Cc) (k:Nat) (hk:k<l.length) (a:Option Addr) (c B:Nat) (w:World) (hown:Own w B 106 3 (.slice a l.length c) l.length (l.flatMap mh)) (hl:l.length≤1000) :
  Calls Tryz.prog 127 #[.slice a l.length c,.int .i64 k,.int .i64 ((k:Int)+1)] w fun e w'=>e = .returned (.slice a (l.length-1) c)∧Own w' B 106 3 (.slice a (l.length-1) c) (l.length-1) ((l.eraseIdx k).flatMap mh)∧w.grownBy w' (oB a):=by
 rcases hown with ⟨hlen,⟨_,hz⟩|⟨b,off,c',cur,hv,hBb,hb,hnc,hmx,hsz,hcell⟩⟩
 ·omega
 cases hv;have hmx':=hmx;unfold maxLen at hmx';have hdl:((l.drop (k+1)).flatMap mh).length=(l.length-(k+1))*3:=by rw[mH,List.length_drop]
 have hdc:=IX (k:=k+1) (by omega) hcell;have hap:∀ad cc ty,(∀j u,((l.drop (k+1)).flatMap mh)[j]?=some u→w.cell? (Addr.add ad j)=some u)→(Builtin.append_ #[38,38] ty #[.slice (some ⟨b,off,none⟩) k c,.slice (some ad) (l.length-(k+1)) cc]).run Tryz.prog w.drew = .ok (.slice (some ⟨b,off,none⟩) (k+(l.length-(k+1))) c) (w.drew.setCells b (off+k*3) ((l.drop (k+1)).flatMap mh)):=by intro ad cc ty hn;obtain⟨i0,hi0,hz0,hzs,hzb⟩:=info_parts cached_info;have:=run_append_room_cells (P:=Tryz.prog) w.drew 38 ty 106 i0 underlying38 hi0 b off k c ad (l.length-(k+1)) cc ((l.drop (k+1)).flatMap mh) (by rw[hzs,hdl]) hn (fun u hu=>Gj _ u hu) (by omega) (fun j hj=>by rw[hzs,hb.drew.cell];simp[show off+k*3+j<cur.size by omega]) (fun j hj=>hb.drew.free _);rw[hzs] at this;exact this
 have hN0:k+1=l.length→((l.drop (k+1)).flatMap mh)=[]:=fun h=>by rw[pV (by omega)];rfl
 obtain⟨N,hN⟩:∃N,N=(l.drop (k+1)).flatMap mh:=⟨_,rfl⟩;rw[←hN] at hdl hdc hap hN0;have hN':=Lib.hid hN;clear hN;have hw1:IntKind.i64.wrap ((k:Int)+1)=(k:Int)+1:=bJ _ (by omega);have hk1:(k:Int)+1≤(l.length:Int):=by omega
 have hk2:(k:Int)≤(k:Int)+1:=by omega
 have hkne:¬((k:Int)=(k:Int)+1):=by omega
 have hk0:(0:Int)≤(k:Int)+1:=by omega
 have htn:((k:Int)+1).toNat=k+1:=by omega
 have hlc:(l.length:Int)≤(c:Int):=by omega
 have hkc:(k:Int)≤(c:Int):=by omega
 go_enter func127,ntmps127
 go_wp2_with fail
 by_cases hck:c=k+1
 ·subst hck;have hN0':=Lib.hid (hN0 (by omega));clear hN0
  go_region_law (refine Jj rfl _ _ 38 38 rfl (.slice (some ⟨b,off,none⟩) k (k+1)) (.slice (some ⟨b,off,none⟩) (l.length-(k+1)) 0) _ (by simp[Act.eval,Act.put]) (by simp[Act.eval,Act.put];omega) (hap _ _ _ (fun j u hj=>by rw[hN0'.out] at hj;simp at hj)) ?_)
  have hb1:=(hb.drew).setCells N (off+k*3);have hgr1:w.grownBy (w.drew.setCells b (off+k*3) N) (some b):=uP (a:=w) (b:=w.drew) (row:=some b) ⟨rfl,rfl,rfl,ay _,fun _ _ _=>rfl⟩ (aH w.drew _ _ _);have hkl:k+(l.length-(k+1))=k:=by omega
  try rw[hkl]
  have hn1' : Hid (k=l.length-1):=Lib.hid (by omega);have e4:(l.length:Int)≤(k:Int)+1:=by omega
  generalize w.drew.setCells b (off+k*3) N=W1 at *
  have hcl0:=fun ty=>tu (P:=Tryz.prog) W1 38 106 ty _ 3 24 underlying38 cached_info (by decide) (by decide) b (off+k*3) 1 (1) (by omega) _ _ hb1 (by rw[size_putAt];show off+k*3+1*3≤cur.size;omega);have e1:l.length-k=1:=by omega
  have e2:((k:Nat):Int)≤(l.length:Int):=by omega
  have e3:¬((k+1)=k):=by omega
  go_wp2;go_ret;have hb2:=hb1.setCells (Builtin.zeroCells (Value.agg #[.int .i64 0,.int .i64 0,.int .i64 0]).cells 1).toList (off+k*3);have hgr2:=uP hgr1 (aH W1 b (off+k*3) (Builtin.zeroCells (Value.agg #[.int .i64 0,.int .i64 0,.int .i64 0]).cells 1).toList);refine⟨congrArg (fun n=>Ending.returned (Value.slice (some ⟨b,off,none⟩) n (k+1))) (show k=l.length-1 by omega),⟨by rw[mH,yH hk],.inr ⟨b,off,(k+1),_,rfl,hBb,hb2,by omega,hmx,by rw[size_putAt,size_putAt];exact hsz,?_⟩⟩,hgr2⟩;intro j u hj;have hjl:j<(l.length-1)*3:=by have:=(bW.1 hj).1;rw[mH,yH hk] at this;exact this
  rw[putAt_out _ _ _ _ (.inl (by omega))];rw[Em,←hN'.out] at hj;have htl:((l.take k).flatMap mh).length=k*3:=by rw[mH,kK,wP (by omega)]
  by_cases c1:j<k*3
  ·rw[kV (by omega)] at hj;rw[putAt_out _ _ _ _ (.inl (by omega))];exact Be hcell j u hj
  rw[kI (by omega),htl] at hj;have:=putAt_in _ cur (off+k*3) (j-k*3) u (by omega) hj;rwa [show off+k*3+(j-k*3)=off+j by omega] at this
 go_region_law (refine Jj rfl _ _ 38 38 rfl (.slice (some ⟨b,off,none⟩) k c) (.slice (some ⟨b,off+(k+1)*3,none⟩) (l.length-(k+1)) (c-(k+1))) _ (by simp[Act.eval,Act.put]) (by simp[Act.eval,Act.put]) (hap _ _ _ (fun j u hj=>by rw[rV,hb.cell];exact hdc j u hj)) ?_)
 have hb1:=(hb.drew).setCells N (off+k*3);have hgr1:w.grownBy (w.drew.setCells b (off+k*3) N) (some b):=uP (a:=w) (b:=w.drew) (row:=some b) ⟨rfl,rfl,rfl,ay _,fun _ _ _=>rfl⟩ (aH w.drew _ _ _);have hkl:k+(l.length-(k+1))=(l.length-1):=by omega
 try rw[hkl]
 have hn1' : Hid ((l.length-1)=l.length-1):=Lib.hid (by omega);have e4:(l.length:Int)≤(c:Int):=by omega
 generalize w.drew.setCells b (off+k*3) N=W1 at *
 have hcl0:=fun ty=>tu (P:=Tryz.prog) W1 38 106 ty _ 3 24 underlying38 cached_info (by decide) (by decide) b (off+(l.length-1)*3) 1 (c-(l.length-1)) (by omega) _ _ hb1 (by rw[size_putAt];show off+(l.length-1)*3+1*3≤cur.size;omega);have e1:l.length-(l.length-1)=1:=by omega
 have e2:(((l.length-1):Nat):Int)≤(l.length:Int):=by omega
 have e3:¬(c=(l.length-1)):=by omega
 go_wp2;go_ret;have hb2:=hb1.setCells (Builtin.zeroCells (Value.agg #[.int .i64 0,.int .i64 0,.int .i64 0]).cells 1).toList (off+(l.length-1)*3);have hgr2:=uP hgr1 (aH W1 b (off+(l.length-1)*3) (Builtin.zeroCells (Value.agg #[.int .i64 0,.int .i64 0,.int .i64 0]).cells 1).toList);refine⟨congrArg (fun n=>Ending.returned (Value.slice (some ⟨b,off,none⟩) n c)) (show (l.length-1)=l.length-1 by omega),⟨by rw[mH,yH hk],.inr ⟨b,off,c,_,rfl,hBb,hb2,by omega,hmx,by rw[size_putAt,size_putAt];exact hsz,?_⟩⟩,hgr2⟩;intro j u hj;have hjl:j<(l.length-1)*3:=by have:=(bW.1 hj).1;rw[mH,yH hk] at this;exact this
 rw[putAt_out _ _ _ _ (.inl (by omega))];rw[Em,←hN'.out] at hj;have htl:((l.take k).flatMap mh).length=k*3:=by rw[mH,kK,wP (by omega)]
 by_cases c1:j<k*3
 ·rw[kV (by omega)] at hj;rw[putAt_out _ _ _ _ (.inl (by omega))];exact Be hcell j u hj
 rw[kI (by omega),htl] at hj;have:=putAt_in _ cur (off+k*3) (j-k*3) u (by omega) hj;rwa [show off+k*3+(j-k*3)=off+j by omega] at this
theorem Uf (c:Cc) (g g2:Nat) (f i:Int) (w:World) (hg:aC w g #[.int .i64 f] 3) (hg2:aC w g2 #[.int .i64 i] 3) :
  Calls Tryz.prog 142 #[.agg (Ab c),.pointer (some ⟨g,0,none⟩),.pointer (some ⟨g2,0,none⟩)] w fun r w'=>r = .returned (.bool (Ap f i c))∧Below w.heap.size w w':=by
 go_enter func142,ntmps142;go_upto_region 1 with (fail);refine gI (fun W=>Code.wp _ _ _ _ W) fun W0 hb0 hx0 hs0 => ?_;clear hs0;have hgx:=(hg.ext hb0).cell 0;have hgy:=(hg2.ext hb0).cell 0;have hcx:=hx0.cell;unfold Ab at hcx
 by_cases h1:f<c.f
 ·go_wp2;go_ret;exact⟨bH (by unfold Ap;simp[h1]),hb0⟩
 by_cases h2:c.f=f
 ·have e1:(c.f==f)=true:=by simpa using h2
  by_cases h3:i≤c.i
  ·go_wp2;go_ret;exact⟨bH (by unfold Ap;simp[h2,h3]),hb0⟩
  go_wp2;go_ret;exact⟨bH (by unfold Ap;simp[h1,h2,h3]),hb0⟩
 have e1:(c.f==f)=false:=by simpa using h2
 go_wp2;go_ret;exact⟨bH (by unfold Ap;simp[h1,h2]),hb0⟩
theorem NZ (l:List Cc) (a:Option Addr) (c:Nat) (w:World) (hrd:dN w a (l.flatMap mh)) (hl:l.length≤9223372036854775807) (g g2:Nat) (ff ii:Int) (hg:aC w g #[.int .i64 ff] 3) (hg2:aC w g2 #[.int .i64 ii] 3) :
  Calls Tryz.prog 113 #[.slice a l.length c,.func (.func 142) #[] #[.pointer (some ⟨g,0,none⟩),.pointer (some ⟨g2,0,none⟩)]] w fun e w'=>e = .returned (.int .i64 (idx (Ap ff ii) l))∧Below w.heap.size w w':=by
 go_enter func113,ntmps113;go_wp2
 go_loopw [8] (fun i wr => ∃k:Nat,k≤l.length∧i = .int .i64 k∧Below w.heap.size w wr∧∀i (h:i<l.length),i<k→(Ap ff ii) l[i]=false) (fun i _=>l.length-(intOf i).toNat)
 case atStart=>exact⟨0,aS _,rfl,Below.refl _ _,fun i _ h=>absurd h (dO _)⟩
 case round=>
  obtain⟨k,hk,rfl,hbr,hp0⟩:=hrel;have hp:=Lib.hid hp0;clear hp0
  by_cases hlt:k<l.length
  ·obtain⟨b,off,rfl,hel⟩:=yO (hrd.below hbr) k hlt
   go_wp2_with (refine ax _ _ rfl b (off+k*3) rfl rfl _ hel _ underlying106 rfl cached_size ?_)
   refine (Uf l[k] g g2 ff ii _ (hg.ext hbr) (hg2.ext hbr)).mono ?_;rintro e w2 ⟨rfl,hb2⟩;have hbel2:=ae hbr hb2;clear hb2;cases hpk:(Ap ff ii) l[k]
   ·have hpk':=Lib.hid hpk;clear hpk;go_wp2;go_roundw
    case rel=>exact⟨k+1,by omega,by go_num,hbel2,lH hp.out hlt hpk'.out⟩
    case measure=>simp[intOf];omega
   have hfin:=Lib.hid (tH (Ap ff ii) l k hlt hp.out hpk);clear hpk;go_wp2;go_ret;exact⟨aR hfin.out.symm,hbel2⟩
  have hfin:=Lib.hid (kT (Ap ff ii) l fun i h=>hp.out i h (by omega));go_wp2;go_ret;exact⟨aR hfin.out.symm,hbr⟩
theorem Tm {l:List Cc} {f i:Int}:(idx (Ap f i) l<0∧yx l f i=l.length∧PV l f i=false)∨(∃k,∃hk:k<l.length,idx (Ap f i) l=k∧yx l f i=k∧PV l f i=(decide (l[k].f=f)&&decide (l[k].i=i))):=by
 unfold idx PV yx;cases h:l.findIdx? (Ap f i) with
 | none=>exact .inl ⟨by decide,rfl,by simp⟩
 | some k=>
  obtain⟨hk,_,_⟩:=uG.1 h;exact .inr ⟨k,hk,rfl,rfl,by simp[aG hk]⟩
theorem Tt (H:MH) (e f i:Int) (B b:Nat) (w:World) (h:kR w B b H e) :
  Calls Tryz.prog 126 #[.pointer (some ⟨b,0,none⟩),.int .i64 f,.int .i64 i] w fun r w'=>r = .returned (.tuple #[.int .i64 (yx H.ca f i:Int),.bool (PV H.ca f i)])∧Below w.heap.size w w':=by
 go_enter func126,ntmps126;go_upto_region 1 with (fail);refine qH (fun W=>Code.wp _ _ _ _ W) fun W0 hb0 hx0 hy0 hs0 => ?_;clear hs0;have k0:=h.below hb0;have hc:=k0.blk.cell;unfold uE at hc;have hm:=k0.ma.rd.ca;have hmx:=hm.mx;have hle:=hm.le;unfold maxLen at hmx;clear h
 go_wp2_with fail
 refine (NZ H.ca H.ac H.cc _ hm.rd (by omega) _ _ f i hx0 hy0).mono ?_;rintro r w1 ⟨rfl,hb1⟩;have hbel:=ae hb0 hb1;have k1:=k0.below hb1;have hx1:=(hx0.ext hb1).cell 0;have hy1:=(hy0.ext hb1).cell 0;have hc1:=k1.blk.cell;unfold uE at hc1;have hrd1:=hm.rd.below hb1;clear hc hx0 hy0 hb0 hb1 k0 hm;rcases Tm (l:=H.ca) (f:=f) (i:=i) with ⟨h1,h2,h3⟩|⟨k,hk,h1,h2,h3⟩
 ·have hq:=Lib.hid (And.intro h2 h3);clear h2 h3;generalize idx (Ap f i) H.ca=z at *
  go_wp2;go_ret2;rw[hq.out.1,hq.out.2];exact⟨rfl,hbel⟩
 have hq:=Lib.hid (And.intro h2 h3);rw[h1];clear h1 h2 h3;obtain⟨g,off,c,hac,hck,c0,c1,c2⟩:=Uu hrd1 k hk;rw[hac] at hc1;have hce:H.ca[k]=c:=by rw[aG hk] at hck;exact aJ hck
 rw[hce] at hq;have hki:(k:Int)<(H.ca.length:Int):=by omega
 clear hck hrd1 hac hce
 go_wp2_with fail
 by_cases e1:c.f=f
 ·have b1:(c.f==f)=true:=by simpa using e1
  by_cases e2:c.i=i
  ·have b2:(c.i==i)=true:=by simpa using e2
   go_quiet (fail);go_wp2;go_ret2;rw[hq.out.1,hq.out.2];refine⟨by simp[e1,e2],below_drewN hbel _⟩
  have b2:(c.i==i)=false:=by simpa using e2
  go_quiet (fail);go_wp2;go_ret2;rw[hq.out.1,hq.out.2];refine⟨by simp[e1,e2],below_drewN hbel _⟩
 have b1:(c.f==f)=false:=by simpa using e1
 go_quiet (fail);go_wp2;go_ret2;rw[hq.out.1,hq.out.2];refine⟨by simp[e1],below_drewN hbel _⟩
def uC (u:Nat × Int):Array Value:=#[.int .i64 u.1,.int .i64 u.2]
def uL (u:Nat × Int):List Value:=(uC u).toList
theorem UF (u:Nat × Int):(uL u).length=2:=rfl
theorem us_info:(Tryz.prog.info? 193).map (fun i=>(i.zero,i.size,i.bytes))=some (some (.agg #[.int .i64 0,.int .i64 0]),2,16):=by kernel_rfl
theorem us_size:(Tryz.prog.info? 193).map (·.size)=some 2:=by kernel_rfl
theorem Vb (u:Nat × Int):∀x∈uL u,x.oneCell' = true:=by
 intro x hx;simp only[uL,uC,bY,fI,or_false] at hx;rcases hx with rfl|rfl<;>rfl
def rG (m:Ma) (f:Int) (P:Nat):List (Nat × Int):=(List.range P).flatMap fun p=>(nT (fq m p).tb 1 f).map fun n=>(p,n)
theorem FD (m:Ma) (f:Int) (P:Nat):rG m f (P+1)=rG m f P++(nT (fq m P).tb 1 f).map fun n=>(P,n):=by
 unfold rG;rw[yK,eT];simp
theorem NC (t:Tb) (kd i:Int):(nT t kd i).length≤64:=by
 unfold nT aN;exact aX (yM _ _) (qY t 64)
theorem BR (m:Ma) (f:Int):∀P,(rG m f P).length≤P*64
 | 0=>by simp[rG]
 | P+1=>by have h1:=BR m f P;have h2:=NC (fq m P).tb 1 f;rw[FD,jG,fe];omega
theorem KN (H:MH) (e f:Int) (B b:Nat) (w:World) (h:kR w B b H e) (hz:H.sp.length≤1000) :
  Calls Tryz.prog 125 #[.pointer (some ⟨b,0,none⟩),.int .i64 f] w fun r w' => ∃v,r = .returned v∧Own w' w.heap.size 193 2 v (bi H.ma f).length ((bi H.ma f).flatMap uL)∧Below w.heap.size w w':=by
 go_enter func125,ntmps125;have hc:=h.blk.cell;unfold uE at hc;go_upto_region 3 with (fail);clear hc
 go_loopw [5,15] (fun s5 s15 wr => ∃P:Nat,P≤H.sp.length∧s15 = .int .i64 P∧Own wr w.heap.size 193 2 s5 (rG H.ma f P).length ((rG H.ma f P).flatMap uL)∧Below w.heap.size w wr) (fun _ s15 _=>H.sp.length-(intOf s15).toNat)
 case atStart=>exact⟨0,aS _,rfl,Own.nil _ _ _ _,Below.refl _ _⟩
 case round=>
  obtain⟨P,hP,rfl,hown,hbr⟩:=hrel
  by_cases hlt:P<H.sp.length
  ·obtain⟨S,hS⟩:∃S,H.sp[P]?=some S:=⟨_,aG hlt⟩;have hspN:=Lib.hid (zD hS);have kr:=h.below hbr;obtain⟨g,off,hap,hrd,hrt,hgood⟩:=kr.at hS;have hc:=kr.blk.cell;unfold uE at hc;rw[hap] at hc;have hPi:(P:Int)<(H.sp.length:Int):=by omega
   go_wp2_with (refine ax _ _ rfl g (off+P*10+2) rfl rfl _ hrt _ underlying53 tab_agg tab_size ?_)
   refine (NG S.tb (ng S.ts) 1 f _ hgood.tb).mono ?_;rintro r w1 ⟨v1,rfl,ho1,hb1⟩;obtain⟨a1,c1,rfl,_⟩:=ho1.rd;have ho1':=ho1.mono (aS _);have hbr1:=ae hbr hb1;have hown1:=hown.below hb1;have hLl:(nT S.tb 1 f).length≤64:=NC _ _ _;have hfS:Hid (nT (fq H.ma P).tb 1 f=nT S.tb 1 f):=Lib.hid (by rw[hspN.out];rfl);have hsz:=BR H.ma f P;generalize nT S.tb 1 f=L at *
   clear hc hrd hrt hgood kr hown hb1 ho1;go_upto_region 6 with (fail)
   go_loopw [5,30] (fun s5 s30 wr => ∃j:Nat,j≤L.length∧s30 = .int .i64 j∧Own wr w.heap.size 193 2 s5 (rG H.ma f P++(L.take j).map fun n=>(P,n)).length ((rG H.ma f P++(L.take j).map fun n=>(P,n)).flatMap uL)∧Below w.heap.size w wr∧Own wr 0 3 1 (.slice a1 L.length c1) L.length (L.map fM)) (fun _ s30 _=>L.length-(intOf s30).toNat)
   case atStart=>exact⟨0,aS _,rfl,by simpa using hown1,hbr1,ho1'⟩
   case round=>
    clear hown1 hbr1 ho1';obtain⟨j,hj,rfl,hown,hbr,hoL⟩:=hrel
    by_cases hjl:j<L.length
    ·obtain⟨_,_,e9,_,_,_,hrL⟩:=hoL.rd;cases e9;obtain⟨bl,ol,rfl,hcl⟩:=jl hrL j hjl;have hji:(j:Int)<(L.length:Int):=by omega
     have hlen:(rG H.ma f P++(L.take j).map fun n=>(P,n)).length=(rG H.ma f P).length+j:=by rw[jG,fe,kK];omega
     have hstep:Hid (rG H.ma f P++(L.take (j+1)).map (fun n=>(P,n))=(rG H.ma f P++(L.take j).map fun n=>(P,n))++[(P,L[j])]):=Lib.hid (by rw[mQ,aG hjl,jf,jC];rfl);generalize rG H.ma f P++(L.take j).map (fun n=>(P,n))=us at *
     go_wp2_with (at_builtin;(refine eH rfl _ _ 191 rfl w.heap.size 193 (.agg #[.int .i64 0,.int .i64 0]) 2 16 underlying191 us_info rfl (by decide) _ _ _ rfl (hown.alloc _) (some ⟨_,0,none⟩) 1 1 (uL (P,L[j])) rfl (fun h=>(by cases h)) (ay _) rfl (dN.new _ (uC (P,L[j])) _) (Vb _) (by unfold maxLen;omega) (by omega) (bV hbr.size _) ?_))
     intro v2 w2 hown2 hgr2;have hbel2:=(hbr.alloc hbr.size (.cells (uC (P,L[j])) 193)).grown hgr2 (bV hbr.size _) (fun k hk=>hown.ge k hk);have hoL2:=zI (hoL.alloc (.cells (uC (P,L[j])) 193)) (hown.alloc (.cells (uC (P,L[j])) 193)) (by decide) hgr2;have hlen2:(us++[(P,L[j])]).length=us.length+1:=by simp
     clear hcl hrL hown hbr hoL hgr2;go_wp2;go_roundw
     case rel=>exact⟨j+1,by omega,by go_num,by rw[hstep.out,hlen2,eT,hlen];simpa using hown2,hbel2,hoL2⟩
     case measure=>simp[intOf];omega
    have hji:¬(j:Int)<(L.length:Int):=by omega
    have hfin:Hid (rG H.ma f P++(L.take j).map (fun n=>(P,n))=rG H.ma f (P+1)):=Lib.hid (by rw[iF (by omega),FD,hfS.out]);clear hoL;go_wp2;go_roundw
    case rel=>
     have hown':=hown;rw[hfin.out] at hown';exact⟨u5,.int .i64 (P:Int),u8,.int .i64 ((P:Int)+1),⟨P+1,by omega,by go_num,hown'⟩,rfl,rfl,rfl,rfl⟩
    case measure=>simp[intOf];omega
  have hfin:Hid (rG H.ma f P=bi H.ma f):=Lib.hid (by
   have:P=H.sp.length:=by omega
   unfold rG bi MH.ma;simp[this])
  have hPi:¬(P:Int)<(H.sp.length:Int):=by omega
  go_wp2;go_ret;rw[←hfin.out];exact⟨_,rfl,hown,hbr⟩
theorem kR.frame {e:Int} (h:kR w B b H e) (hf:f<H.m.fs.length) :
  ∃g off cur,H.af=some ⟨g,off,none⟩∧B≤g∧aC w g cur 81∧off+f*13+13≤cur.size∧dN w (some ⟨g,off+f*13,none⟩) (pO (aT H.ma f))∧(∀j u,(pO (aT H.ma f))[j]?=some u→cur[off+f*13+j]?=some u)∧b≠g ∧
   ∀(w' : World) (x:Fr),aC w' g (bA cur (off+f*13) (pO x)) 81→w.grownBy w' (some g)→kR w' B b { H with m:=⟨H.m.fs.set f x,H.m.hand⟩ } e:=by
 have hfe:H.m.fs[f]=aT H.ma f:=by have:H.m.fs[f]?=some (aT H.ma f):=xN (m:=H.ma) (f:=f) hf;rw[aG hf] at this;exact aJ this
 obtain⟨g,off,cap,cur,hv,hB,hblk,hfit,hset⟩:=kW eZ (by decide) rfl h.ma.fr f hf;simp only[lY] at hv;obtain⟨haf,_,hcf⟩:=hv;have hfr:=h.ma.fr;rw[haf] at hfr;have hcell:=Ah hfr hblk;have hat:∀j u,(pO (aT H.ma f))[j]?=some u→cur[off+f*13+j]?=some u:=fun j u hj=>by rw[mU];exact hcell _ _ (flat_get pO 13 eZ H.m.fs f hf j u (by rw[hfe];exact hj))
 have hbk:b≠g:=fun e=>by have h1:=h.blk;subst e;unfold aC at h1 hblk;rw[h1] at hblk;simp only[iM,rY] at hblk;exact absurd hblk.2.1 (by decide)
 refine⟨g,off,cur,haf,hB,hblk,hfit,fun j u hj=>⟨g,_,rfl,by rw[hblk.cell];exact hat j u hj⟩,hat,hbk,fun w' x hb hg => ?_⟩;have hlen:(H.m.fs.set f x).length=H.m.fs.length:=bI;refine⟨?_,h.ge,⟨?_,ak h.ma.sl hblk (by decide) hg,h.ma.sw.keep hblk (by decide) (by decide) hg,h.ma.dk.keep hblk (by decide) (by decide) hg,h.ma.st.keep hblk (by decide) (by decide) hg,ak h.ma.ca hblk (by decide) hg,ak h.ma.sp hblk (by decide) hg,fun q hq=>⟨ak (h.ma.ps q hq).1 hblk (by decide) hg,(h.ma.ps q hq).2.keep hblk (by decide) hg⟩,h.ma.c64⟩,h.tz⟩
 ·have:uE { H with m:=⟨H.m.fs.set f x,H.m.hand⟩ } e=uE H e:=by unfold uE;simp only[hlen]
  rw[this];exact h.blk.grown hg (fun e=>hbk (aJ e).symm)
 simp only[hlen];exact hset w' _ hb
theorem putAt_one {o:Nat}:∀ {vs:List Value} {j:Nat} {v:Value},(∀i u,vs[i]?=some u→cur[o+i]?=some u)→j<vs.length→bA cur o (vs.set j v)=cur.setIfInBounds (o+j) v:=by
 intro vs j v hat hj;apply mg;intro i;rw[zM];have hsz:∀k,k<vs.length→o+k<cur.size:=fun k hk=>(gW.1 (hat k _ (aG hk))).1
 by_cases h1:i<o∨o+vs.length≤i
 ·rw[putAt_out _ _ _ _ (by rw[bI];omega),if_neg (by omega)]
 have hi:i-o<vs.length:=by omega
 have:=putAt_in (vs.set j v) cur o (i-o) ((vs.set j v)[i-o]'(by rw[bI];exact hi)) (by rw[bI];have:=hsz (vs.length-1) (by omega);omega) (aG _);rw[show o+(i-o)=i by omega] at this;rw[this,Ct]
 by_cases e:j=i-o
 ·rw[if_pos e,if_pos (by omega),if_pos (by have:=hsz j hj;omega)]
 rw[if_neg e,if_neg (by omega)];have:=hat (i-o) _ (aG hi);rw[show o+(i-o)=i by omega] at this;exact this.symm
theorem Iy (s:St) (f i:Int):(dJ s f i).count=s.count∨(dJ s f i).count=0:=by
 unfold dJ;split
 ·exact .inr rfl
 split
 ·exact .inl rfl
 ·exact .inl rfl
theorem RD {o:Nat} (m:World→Prop) (h:∀W,w.grownBy W (some b)→(∀ {cur T},aC w b cur T→aC W b (bA cur o vs) T)→m W):m (w.setCells b o vs).drew:=by
 have h1:=aH w b o vs;exact h _ ⟨h1.os,h1.tape,h1.output,h1.size,h1.block⟩ fun hb=>hb.setCells vs o
theorem ME : (Tryz.prog.info? 4).map (·.size)=some 1:=by kernel_rfl
def Pp (B:Nat) (S:St) (N E:Int):lX:=⟨fun v w => ∃u ps k,v = .tuple #[.agg #[u,.int .i64 k],.int .i64 N,.int .i64 E]∧nM w B u ps∧bZ ps k=S,fun _ _ _ hb ⟨u,ps,k,h1,h2,h3⟩=>⟨u,ps,k,h1,h2.below hb,h3⟩⟩
def BI (B:Nat) (d:mZ) (E:Int):lX:=⟨fun v w => ∃a b,v = .tuple #[.agg #[a,b],.int .i64 E]∧ic w B a b d,fun _ _ _ hb ⟨a,b,h1,h2⟩=>⟨a,b,h1,h2.below hb⟩⟩
theorem DU (H:MH) (e:Int) (f:Nat) (B b:Nat) (w:World) (h:kR w B b H e) (hf:f<H.m.fs.length) :
  Calls Tryz.prog 57 #[.pointer (some ⟨b,0,none⟩),.int .i64 f] w fun r w'=>r = .returned (.bool (iY H.ma f))∧KR w B b H w' (je ⟨H.ma,e⟩ f):=by
 obtain⟨g,off,cur,haf,hBg,hblk,hfit,hrd,hat,hbg,hset⟩:=h.frame hf;generalize hx:aT H.ma f=x at *
 have hx':=Lib.hid hx;clear hx hset;have hc:=h.blk.cell;unfold uE at hc;rw[haf] at hc;have hfi:(f:Int)<(H.m.fs.length:Int):=by omega
 have q10:cur[off+f*13+10]?=some (.bool x.d):=hat 10 _ rfl;have q11:cur[off+f*13+11]?=some (.int .i64 x.f):=hat 11 _ rfl;have q12:cur[off+f*13+12]?=some (.int .i64 x.i):=hat 12 _ rfl;have hcg:=hblk.cell;have hfg:=hblk.free;have hat':=Lib.hid hat;clear hat;go_enter func57,ntmps57
 by_cases h1:x.f<0
 ·have hq:Hid (je ⟨H.ma,e⟩ f=⟨H.ma,e⟩):=Lib.hid (by unfold je;simp only[hx'.out];rw[if_pos (.inl h1)]);have hq2:Hid (iY H.ma f=true):=Lib.hid (by unfold iY;rw[hx'.out];simp[h1]);have hh:=Lib.hid h;clear h;go_wp2;go_ret;rw[hq.out,hq2.out];exact⟨rfl,_,_,hh.out,KS.refl _ _ _,rfl⟩
 cases hd:x.d with
 | false=>
  have hq:Hid (je ⟨H.ma,e⟩ f=⟨H.ma,e⟩):=Lib.hid (by unfold je;simp only[hx'.out];rw[if_pos (.inr (.inl hd))]);have hq2:Hid (iY H.ma f=true):=Lib.hid (by unfold iY;rw[hx'.out,hd];simp);rw[hd] at q10;have hh:=Lib.hid h;clear h;go_wp2;go_ret;rw[hq.out,hq2.out];exact⟨rfl,_,_,hh.out,KS.refl _ _ _,rfl⟩
 | true=>
  rw[hd] at q10;go_upto_region 4 with (fail);have hm:=Lib.hid h;refine mW 22 [_,_,_,_,_,_,_,_,_,_,_,_,_,.r 13 ((Pp w.heap.size (dJ H.ma.st x.f x.i) (dQ H.ma.st x.f x.i) (dn H.ma.st x.f x.i))),.r 14 ((Pp w.heap.size (dJ H.ma.st x.f x.i) (dQ H.ma.st x.f x.i) (dn H.ma.st x.f x.i))),.r 15 ((Le w.heap.size (dJ H.ma.st x.f x.i))),.v (.int .i64 (dQ H.ma.st x.f x.i)),.v (.int .i64 (dn H.ma.st x.f x.i)),.r 18 ((kv w.heap.size 37 2)),.y 19 ((Qu 18 w.heap.size 37 (Le w.heap.size (dJ H.ma.st x.f x.i)))),.v (.int .i64 (dQ H.ma.st x.f x.i)),.v (.int .i64 (dn H.ma.st x.f x.i))] (fun W=>Below w.heap.size w W) gB (Below.refl _ _) (Yk gB rfl (Yk gB rfl (Yf gB b 0 rfl rfl (Yf gB b 7 rfl rfl (Yr gB (.agg #[.slice H.ai H.fi.length H.ci,.int .i64 H.ct]) (fun ρ y W hb hKn=>(bB rfl (aD rfl hKn) (h.below hb).rdS underlying37 rfl store_size)) rfl rfl (Yk gB rfl (Yk gB rfl (Yf gB g (off+f*13+11) rfl rfl (Yc gB (.int .i64 x.f) (fun W hb=>by simp[(hblk.ext hb).cell,q11]) rfl rfl rfl rfl (Yk gB rfl (Yk gB rfl (Yf gB g (off+f*13+12) rfl rfl (Yc gB (.int .i64 x.i) (fun W hb=>by simp[(hblk.ext hb).cell,q12]) rfl rfl rfl rfl (ag ?_ (ag ?_ (ag ?_ (ag ?_ (ag ?_ (ag ?_ (ag ?_ (Yk gB rfl (Yk gB rfl (aB))))))))))))))))))))))) (fun _=>rfl) rfl ?_
  ·intro ρ y W hw hn hb hd;refine lM gB hb ((Pp w.heap.size (dJ H.ma.st x.f x.i) (dQ H.ma.st x.f x.i) (dn H.ma.st x.f x.i))) (fun _ _ h=>h) ?_;have E35:=hw 35 4 rfl;have h4:y 4 = .agg #[.slice H.ai H.fi.length H.ci,.int .i64 H.ct]:=hd 4 rfl;have E39:=hw 39 8 rfl;have h8:y 8 = .int .i64 x.f:=hd 8 rfl;have E43:=hw 43 12 rfl;have h12:y 12 = .int .i64 x.i:=hd 12 rfl;have EF:∀f,ρ (.func f) = .func (.func f) #[] #[]:=fun f=>hn (.func f) trivial;refine aO _ _ (ah rfl) (aQ rfl (EF _) func91 (by kernel_rfl) (by kernel_rfl) (by simp only[bP,bM,bN,E35,h4,E39,h8,E43,h12,EF];rfl)) ?_;refine (Ku H.fi H.ct x.f x.i H.ai H.ci W (h.below hb).ma.rd.st h.ma.c64).mono ?_;rintro r W2 ⟨u,ps,k,rfl,ho,hst,hb2⟩;exact⟨_,rfl,hb2,u,ps,k,rfl,ho.mono hb.size,hst⟩
  ·intro ρ y W hw hn hb hd;refine lM gB hb ((Pp w.heap.size (dJ H.ma.st x.f x.i) (dQ H.ma.st x.f x.i) (dn H.ma.st x.f x.i))) (fun _ _ h=>h) ?_;have E44:=hw 44 13 rfl;have h13:=hd 13 rfl;refine aj _ (ah rfl) (run_move (.inl rfl) E44) ?_;exact h13
  ·intro ρ y W hw hn hb hd;refine lM gB hb ((Le w.heap.size (dJ H.ma.st x.f x.i))) (fun _ _ h=>h) ?_;have E30:=hw 30 14 rfl;have h14:=hd 14 rfl;obtain⟨u,ps,k,hu,ho,hst⟩:=h14;refine aj (.agg #[u,.int .i64 k]) (ah rfl) (by simp[execOp,go_sem,cZ,E30,hu]) ?_;exact⟨u,ps,k,rfl,ho,hst⟩
  ·intro ρ y W hw hn hb hd;refine lM gB hb (uy (.int .i64 (dQ H.ma.st x.f x.i))) (fun _ _ h=>h) ?_;have E30:=hw 30 14 rfl;have h14:=hd 14 rfl;obtain⟨u,ps,k,hu,ho,hst⟩:=h14;refine aj (.int .i64 (dQ H.ma.st x.f x.i)) (ah rfl) (by simp[execOp,go_sem,cZ,E30,hu]) rfl
  ·intro ρ y W hw hn hb hd;refine lM gB hb (uy (.int .i64 (dn H.ma.st x.f x.i))) (fun _ _ h=>h) ?_;have E30:=hw 30 14 rfl;have h14:=hd 14 rfl;obtain⟨u,ps,k,hu,ho,hst⟩:=h14;refine aj (.int .i64 (dn H.ma.st x.f x.i)) (ah rfl) (by simp[execOp,go_sem,cZ,E30,hu]) rfl
  ·intro ρ y W hw hn hb hd;refine lM gB hb ((kv w.heap.size 37 2)) (fun _ _ h=>h) ?_;refine jL (.pointer (some ⟨W.heap.size,0,none⟩)) (ah rfl) (by simp[execOp,go_sem,cZ]) ((Below.refl _ _).alloc (ay _) (.cells #[.slice none 0 0,.int .i64 0] 37)) ?_;exact⟨_,_,rfl,hb.size,aC.new _ _ _,rfl⟩
  ·intro ρ y W hw hn hb hd;have E6:=hw 6 18 rfl;have h18:=hd 18 rfl;have E45:=hw 45 15 rfl;have h15:=hd 15 rfl;obtain⟨u,ps,k,e7,ho7,hst7⟩:=h15;obtain⟨g3,cur3,e9,hg9,hb9,hs9⟩:=h18;obtain⟨au,cu,rfl,_⟩:=ho7.rd;refine rF (ah rfl) _ _ _ rfl g3 0 (.agg #[.slice au ps.length cu,.int .i64 k]) [.slice au ps.length cu,.int .i64 k] (E6.trans e9) (E45.trans e7) rfl cur3 _ hb9 (by rw[hs9];exact ay _) store_size (bR (qV _ _ _ _)) ?_;intro w1 hw1 hgr;rw[show [Value.slice au ps.length cu,Value.int .i64 k]=(#[Value.slice au ps.length cu,Value.int .i64 k]:Array Value).toList from rfl,iO cur3 _ (by rw[hs9];rfl)] at hw1;refine⟨hb.grown hgr hb.size (fun k hk=>by cases hk;exact hg9),⟨g3,_,e9,hg9,hw1,⟨_,ps,k,rfl,ho7.keep hb9 (by decide) (by decide) hgr,hst7⟩⟩,?_⟩;intro k hk hne
   match k,hk,hne with
   | 0,_,_=>exact fun h=>h
   | 1,_,_=>exact fun h=>h
   | 2,_,_=>exact fun h=>h
   | 3,_,_=>exact fun h=>h
   | 4,_,_=>exact fun h=>h
   | 5,_,_=>exact fun h=>h
   | 6,_,_=>exact fun h=>h
   | 7,_,_=>exact fun h=>h
   | 8,_,_=>exact fun h=>h
   | 9,_,_=>exact fun h=>h
   | 10,_,_=>exact fun h=>h
   | 11,_,_=>exact fun h=>h
   | 12,_,_=>exact fun h=>h
   | 13,_,_=>exact fun⟨c,q0,q1,q2,q3,q4⟩=>⟨c,q0,q1,q2,q3.keep hb9 (by decide) (by decide) hgr,q4⟩
   | 14,_,_=>exact fun⟨c,q0,q1,q2,q3,q4⟩=>⟨c,q0,q1,q2,q3.keep hb9 (by decide) (by decide) hgr,q4⟩
   | 15,_,_=>exact fun⟨c,q0,q1,q2,q3,q4⟩=>⟨c,q0,q1,q2,q3.keep hb9 (by decide) (by decide) hgr,q4⟩
   | 16,_,_=>exact fun h=>h
   | 17,_,_=>exact fun h=>h
   | 18,_,_=>exact fun q=>pF q hw1 (fun _=>rfl) ⟨_,hb9⟩ hgr
   | 19,_,h=>exact absurd rfl h
   | 20,_,_=>exact fun h=>h
   | 21,_,_=>exact fun h=>h
   | n+22,h,_=>exact absurd h (by omega)
  intro y W2 hbW2 hRW2;replace hbW2:Below w.heap.size w W2:=hbW2;have hy13:((Pp w.heap.size (dJ H.ma.st x.f x.i) (dQ H.ma.st x.f x.i) (dn H.ma.st x.f x.i))).r (y 13) W2:=hRW2 13 (by decide);have hy14:((Pp w.heap.size (dJ H.ma.st x.f x.i) (dQ H.ma.st x.f x.i) (dn H.ma.st x.f x.i))).r (y 14) W2:=hRW2 14 (by decide);have hy15:((Le w.heap.size (dJ H.ma.st x.f x.i))).r (y 15) W2:=hRW2 15 (by decide);have hy18:((kv w.heap.size 37 2)).r (y 18) W2:=hRW2 18 (by decide);have hy19:=hRW2 19 (by decide);clear hRW2;simp only[bT,cZ,bM,bN];obtain⟨gs,cs,hys,hgs,hbs,us,ps,ks,hcs,ho2,hst2⟩:=hy19;simp only[Cy] at hcs;subst hcs;obtain⟨au,cu,rfl,_⟩:=ho2.rd;have k2:=h.below hbW2;have s2:=(KS.refl w b H).below hbW2;have hblk2:=hblk.ext hbW2;have hrd2:=hrd.below hbW2;have hgs':=Lib.hid hgs;clear hy13 hy14 hy15 hy18 hc hcg hfg hgs
  by_cases hE:dn H.ma.st x.f x.i=0
  ·have hq:Hid (je ⟨H.ma,e⟩ f=⟨setFr { H.ma with st:=dJ H.ma.st x.f x.i,dk:=dC H.dk (dQ H.ma.st x.f x.i) x.p } f { x with d:=false },jd e (aL H.dk (dQ H.ma.st x.f x.i))⟩):=Lib.hid (by
    unfold je;simp only[hx'.out];rw[if_neg]
    ·rfl
    rintro (q|q|q)
    ·exact h1 q
    ·rw[hd] at q;cases q
    ·exact q hE)
   have hq2:Hid (iY H.ma f=true):=Lib.hid (by unfold iY;rw[hx'.out,hE];simp);rw[hE];clear hE;have hN64:Hid (dn H.ma.st x.f x.i=dn H.ma.st x.f x.i):=Lib.hid rfl;generalize dQ H.ma.st x.f x.i=N at *
   go_upto_region 7 with (fail);refine mW 17 [_,_,_,_,_,_,_,_,_,_,.r 10 ((BI W2.heap.size (dC H.dk N x.p) (aL H.dk N))),.r 11 ((BI W2.heap.size (dC H.dk N x.p) (aL H.dk N))),.r 12 ((xC W2.heap.size (dC H.dk N x.p))),.v (.int .i64 (aL H.dk N)),.r 14 ((kv W2.heap.size 34 2)),.y 15 ((Qu 14 W2.heap.size 34 (xC W2.heap.size (dC H.dk N x.p)))),.v (.int .i64 (aL H.dk N))] (fun W=>Below W2.heap.size W2 W) gB (Below.refl _ _) (Yk gB rfl (Yk gB rfl (Yf gB b 0 rfl rfl (Yf gB b 5 rfl rfl (Yr gB (.agg #[.slice H.db H.dk.blocks.length H.cdb,.slice H.dq H.dk.queue.length H.cdq]) (fun ρ y W hb hKn=>(bB rfl (aD rfl hKn) (k2.below hb).rdD underlying34 rfl disk_size)) rfl rfl (Yk gB rfl (Yk gB rfl (Yk gB rfl (Yf gB g (off+f*13) rfl rfl (Yr gB (.agg (iq x.p)) (fun ρ y W hb hKn=>(bB rfl (aD rfl hKn) (uz (hrd2.below hb) 0 8) underlying79 rfl psize)) rfl rfl (ag ?_ (ag ?_ (ag ?_ (ag ?_ (ag ?_ (ag ?_ (Yk gB rfl (aB)))))))))))))))))) (fun _=>rfl) rfl ?_
   ·intro ρ y W hw hn hb hd;refine lM gB hb ((BI W2.heap.size (dC H.dk N x.p) (aL H.dk N))) (fun _ _ h=>h) ?_;have E55:=hw 55 4 rfl;have h4:y 4 = .agg #[.slice H.db H.dk.blocks.length H.cdb,.slice H.dq H.dk.queue.length H.cdq]:=hd 4 rfl;have E56:=hw 56 5 rfl;have h5:y 5 = .int .i64 N:=hd 5 rfl;have E60:=hw 60 9 rfl;have h9:y 9 = .agg (iq x.p):=hd 9 rfl;have EF:∀f,ρ (.func f) = .func (.func f) #[] #[]:=fun f=>hn (.func f) trivial;refine aO _ _ (ah rfl) (aQ rfl (EF _) func92 (by kernel_rfl) (by kernel_rfl) (by simp only[bP,bM,bN,E55,h4,E56,h5,E60,h9,EF];rfl)) ?_;refine (Eg H.dk N x.p H.db H.cdb H.dq H.cdq W (k2.below hb).ma.rd.dk).mono ?_;rintro r W3 ⟨vb,vq,rfl,ho,hb3⟩;exact⟨_,rfl,hb3,vb,vq,rfl,ho.mono hb.size⟩
   ·intro ρ y W hw hn hb hd;refine lM gB hb ((BI W2.heap.size (dC H.dk N x.p) (aL H.dk N))) (fun _ _ h=>h) ?_;have E61:=hw 61 10 rfl;have h10:=hd 10 rfl;refine aj _ (ah rfl) (run_move (.inl rfl) E61) ?_;exact h10
   ·intro ρ y W hw hn hb hd;refine lM gB hb ((xC W2.heap.size (dC H.dk N x.p))) (fun _ _ h=>h) ?_;have E50:=hw 50 11 rfl;have h11:=hd 11 rfl;obtain⟨vb,vq,hu,ho⟩:=h11;refine aj (.agg #[vb,vq]) (ah rfl) (by simp[execOp,go_sem,cZ,E50,hu]) ?_;exact⟨vb,vq,rfl,ho⟩
   ·intro ρ y W hw hn hb hd;refine lM gB hb (uy (.int .i64 (aL H.dk N))) (fun _ _ h=>h) ?_;have E50:=hw 50 11 rfl;have h11:=hd 11 rfl;obtain⟨vb,vq,hu,ho⟩:=h11;refine aj (.int .i64 (aL H.dk N)) (ah rfl) (by simp[execOp,go_sem,cZ,E50,hu]) rfl
   ·intro ρ y W hw hn hb hd;refine lM gB hb ((kv W2.heap.size 34 2)) (fun _ _ h=>h) ?_;refine jL (.pointer (some ⟨W.heap.size,0,none⟩)) (ah rfl) (by simp[execOp,go_sem,cZ]) ((Below.refl _ _).alloc (ay _) (.cells #[.slice none 0 0,.slice none 0 0] 34)) ?_;exact⟨_,_,rfl,hb.size,aC.new _ _ _,rfl⟩
   ·intro ρ y W hw hn hb hd;have E9:=hw 9 14 rfl;have h14:=hd 14 rfl;have E62:=hw 62 12 rfl;have h12:=hd 12 rfl;obtain⟨vb,vq,e7,ho7⟩:=h12;obtain⟨g3,cur3,e9,hg9,hb9,hs9⟩:=h14;obtain⟨ab,cb,rfl,_⟩:=ho7.b.rd;obtain⟨aq,cq,rfl,_⟩:=ho7.q.rd;refine rF (ah rfl) _ _ _ rfl g3 0 (.agg #[.slice ab _ cb,.slice aq _ cq]) [.slice ab _ cb,.slice aq _ cq] (E9.trans e9) (E62.trans e7) rfl cur3 _ hb9 (by rw[hs9];exact ay _) disk_size (bR (kQ _ _ _ _ _ _)) ?_;intro w1 hw1 hgr;rw[show ∀(p q:Value),[p,q]=(#[p,q]:Array Value).toList from fun _ _=>rfl,iO cur3 _ (by rw[hs9];rfl)] at hw1;refine⟨hb.grown hgr hb.size (fun k hk=>by cases hk;exact hg9),⟨g3,_,e9,hg9,hw1,⟨_,_,rfl,ho7.keep hb9 (by decide) (by decide) hgr⟩⟩,?_⟩;intro k hk hne
    match k,hk,hne with
    | 0,_,_=>exact fun h=>h
    | 1,_,_=>exact fun h=>h
    | 2,_,_=>exact fun h=>h
    | 3,_,_=>exact fun h=>h
    | 4,_,_=>exact fun h=>h
    | 5,_,_=>exact fun h=>h
    | 6,_,_=>exact fun h=>h
    | 7,_,_=>exact fun h=>h
    | 8,_,_=>exact fun h=>h
    | 9,_,_=>exact fun h=>h
    | 10,_,_=>exact fun⟨c,q0,q1,q2⟩=>⟨c,q0,q1,q2.keep hb9 (by decide) (by decide) hgr⟩
    | 11,_,_=>exact fun⟨c,q0,q1,q2⟩=>⟨c,q0,q1,q2.keep hb9 (by decide) (by decide) hgr⟩
    | 12,_,_=>exact fun⟨c,q0,q1,q2⟩=>⟨c,q0,q1,q2.keep hb9 (by decide) (by decide) hgr⟩
    | 13,_,_=>exact fun h=>h
    | 14,_,_=>exact fun q=>pF q hw1 (fun _=>rfl) ⟨_,hb9⟩ hgr
    | 15,_,h=>exact absurd rfl h
    | 16,_,_=>exact fun h=>h
    | n+17,h,_=>exact absurd h (by omega)
   intro y W3 hbW3 hRW3;replace hbW3:Below W2.heap.size W2 W3:=hbW3;have hy10:((BI W2.heap.size (dC H.dk N x.p) (aL H.dk N))).r (y 10) W3:=hRW3 10 (by decide);have hy11:((BI W2.heap.size (dC H.dk N x.p) (aL H.dk N))).r (y 11) W3:=hRW3 11 (by decide);have hy12:((xC W2.heap.size (dC H.dk N x.p))).r (y 12) W3:=hRW3 12 (by decide);have hy14:((kv W2.heap.size 34 2)).r (y 14) W3:=hRW3 14 (by decide);have hy15:=hRW3 15 (by decide);clear hRW3;simp only[bT,cZ,bM,bN];obtain⟨gd,cd,hyd,hgd,hbd,vb,vq,hcd,ho3⟩:=hy15;simp only[Cy] at hcd;subst hcd;obtain⟨ab,cb,rfl,_⟩:=ho3.b.rd;obtain⟨aq,cq,rfl,_⟩:=ho3.q.rd;have k3:=k2.below hbW3;have s3:=s2.below hbW3;have hbs3:=hbs.ext hbW3;have ho23:=ho2.below hbW3;have hw2:=Lib.hid s2.size;have hrd3:=hrd2.below hbW3;clear hy10 hy11 hy12 hy14 k2 s2 hblk2 hbs ho2 hbW3 hrd2
   go_wp2_with fail
   refine (tY _ e (aL H.dk N) _ _ _ k3).mono ?_;rintro r w4 ⟨rfl,k4,hg4⟩;have s4:=s3.putB hg4 rfl rfl rfl;have ho34:=ho3.keep k3.blk (by decide) (by decide) hg4;have ho24:=ho23.keep k3.blk (by decide) (by decide) hg4;have hbs4:=bu hbs3 k3.blk (by decide) hg4;have hbd4:=bu hbd k3.blk (by decide) hg4;clear k3 s3 ho3 ho23 hbs3 hbd hg4 hrd3;have hcb:=k4.blk.cell;have hfb:=k4.blk.free;unfold uE at hcb;have hcs:=hbs4.cell;have hcd:=hbd4.cell;have n1:=lJ k4.blk hbs4 (by decide);have n2:=lJ k4.blk hbd4 (by decide);have n3:=lJ hbs4 hbd4 (by decide);go_upto_region 9 with (fail)
   go_region
   refine RD (w:=w4.setCells b 7 [.slice au ps.length cu,.int .i64 ks]) (b:=b) (o:=5) (vs:=[.slice ab (dC H.dk N x.p).blocks.length cb,.slice aq (dC H.dk N x.p).queue.length cq]) (fun W=>Exit.then _ _ _ _ W) fun w6 hg6 hb6 => ?_;have hct : -9223372036854775808≤ks∧ks≤9223372036854775807:=by
    have e1:ks=(dJ H.ma.st x.f x.i).count:=by rw[←hst2];rfl
    have e2:=h.ma.c64;have e3:H.ma.st.count=H.ct:=rfl;rcases Iy H.ma.st x.f x.i with e4|e4<;>rw[e1,e4]<;>omega
   have hg5:=aH w4 b 7 [.slice au ps.length cu,.int .i64 ks];have hb5:=k4.blk.setCells [.slice au ps.length cu,.int .i64 ks] 7;have k5:=k4.setS (ho24.mono h.bs) hct hb5 hg5;have s5:=s4.putB (H':={ H with ai:=au,ci:=cu,fi:=ps,ct:=ks }) hg5 rfl rfl rfl;have ho35:=ho34.keep k4.blk (by decide) (by decide) hg5;have hb6':=hb6 k5.blk;have k6:=k5.setD (ho35.mono (aX h.bs hw2.out)) hb6' hg6;have s6:=s5.putB (H':={ H with ai:=au,ci:=cu,fi:=ps,ct:=ks,db:=ab,cdb:=cb,dq:=aq,cdq:=cq,dk:=dC H.dk N x.p }) hg6 rfl rfl rfl;clear hb6 hb6' hg6 k5 s5 ho35 hb5 hg5 hct k4 s4 ho34 ho24 hcb hfb hcs hcd hbs4 hbd4;obtain⟨g7,off7,cur7,haf7,hBg7,hblk7,hfit7,hrd7,hat7,hbg7,hset7⟩:=k6.frame hf;have hgg:g7=g∧off7=off:=by have:H.af=some ⟨g7,off7,none⟩:=haf7;rw[haf] at this;simp only[iM,vC,and_true] at this;exact⟨this.1.symm,this.2.symm⟩
   obtain⟨rfl,rfl⟩:=hgg;have hx7:aT (MH.ma { H with ai:=au,ci:=cu,fi:=ps,ct:=ks,db:=ab,cdb:=cb,dq:=aq,cdq:=cq,dk:=dC H.dk N x.p }) f=x:=hx'.out;rw[hx7] at hat7;have hput:=putAt_one (v:=.bool false) (j:=10) hat7 (by rw[eZ];decide)
   go_wp2_with (refine aA rfl _ _ _ rfl g7 (off7+f*13+10) _ [.bool false] rfl rfl rfl _ _ hblk7 (by simp;omega) ME (fun u hu=>by cases bq.1 hu;rfl) ?_)
   intro w8 hb8 hg8;have hb8' : aC w8 g7 (bA cur7 (off7+f*13) (pO { x with d:=false })) 81:=by have e1:pO { x with d:=false }=(pO x).set 10 (.bool false):=rfl;rw[e1,hput];exact hb8
   have k8:=hset7 w8 { x with d:=false } hb8' hg8;have s8:=s6.put (H':={ H with ai:=au,ci:=cu,fi:=ps,ct:=ks,db:=ab,cdb:=cb,dq:=aq,cdq:=cq,dk:=dC H.dk N x.p,m:=⟨H.m.fs.set f { x with d:=false },H.m.hand⟩ }) hg8 (.inr (.inl (by show oB H.af=_;rw[haf];rfl))) fun y hy => .inl (GK rfl rfl rfl hy);go_wp2;go_ret;rw[hq.out,hq2.out];refine⟨rfl,_,_,k8,s8,?_⟩;unfold MH.ma setFr;simp only[hst2];rfl
  have hq:Hid (je ⟨H.ma,e⟩ f=⟨H.ma,e⟩):=Lib.hid (by unfold je;simp only[hx'.out];rw[if_pos (.inr (.inr hE))]);have hq2:Hid (iY H.ma f=false):=Lib.hid (by unfold iY;rw[hx'.out];simp only[zg,decide_eq_false_iff_not,Bool.not_eq_false'];exact⟨⟨h1,hd⟩,hE⟩);go_wp2;go_ret;rw[hq.out,hq2.out];exact⟨rfl,_,_,k2,s2,rfl⟩
theorem Oa (k:Kp) (p:Nat) (n:Int) (x:En):(jT k p n x).m.sp.length=k.m.sp.length:=by
 unfold jT;split
 ·exact uw
 ·rfl
theorem NT (k:Kp) (p:Nat) (n:Int) (x:En):(jT k p n x).m.ca=k.m.ca:=by unfold jT;split<;>rfl
theorem Ou (k:Kp) (p:Nat) (n:Int) (x:En):(jT k p n x).m.m=k.m.m:=by unfold jT;split<;>rfl
theorem OT (k:Kp) (f n:Int):(iE k f n).m.sp=k.m.sp:=by unfold iE;split<;>rfl
theorem Pb (k:Kp) (f n:Int):(iE k f n).m.ca=k.m.ca:=by unfold iE;split<;>rfl
theorem NR (k:Kp) (f n:Int):(iE k f n).m.m.fs.length=k.m.m.fs.length:=by
 unfold iE;split
 ·rename_i h;show (lC k.m.m f n).fs.length=_;unfold lC;rw[if_pos h];exact bI
 ·rfl
theorem Pd (k:Kp) (f n:Int):(oL k f n).m.sp=k.m.sp:=by unfold oL;split<;>rfl
theorem PL (k:Kp) (f n:Int):(oL k f n).m.ca=k.m.ca:=by unfold oL;split<;>rfl
theorem OX (k:Kp) (f n:Int):(oL k f n).m.m=k.m.m:=by unfold oL;split<;>rfl
structure jI (k k' : Kp):Prop where
 sp:k'.m.sp.length=k.m.sp.length
 ca:k'.m.ca=k.m.ca
 fs:k'.m.m.fs.length=k.m.m.fs.length
theorem jI.refl (k:Kp):jI k k:=⟨rfl,rfl,rfl⟩
theorem jI.trans {a b c:Kp} (h:jI a b) (k:jI b c):jI a c:=⟨k.sp.trans h.sp,k.ca.trans h.ca,k.fs.trans h.fs⟩
theorem jI.enter (k:Kp) (p:Nat) (n:Int) (x:En):jI k (jT k p n x):=⟨Oa k p n x,NT k p n x,by rw[Ou]⟩
theorem jI.hold (k:Kp) (f n:Int):jI k (iE k f n):=⟨by rw[OT],Pb k f n,NR k f n⟩
theorem jI.shold (k:Kp) (f n:Int):jI k (oL k f n):=⟨by rw[Pd],PL k f n,by rw[OX]⟩
theorem jI.drop (k:Kp) (p:Nat) (n:Int):jI k (qd k p n):=by
 unfold qd;simp only;split
 ·exact (jI.hold _ _ _).trans (jI.enter _ _ _ _)
 split
 ·exact (jI.shold _ _ _).trans (jI.enter _ _ _ _)
 ·exact .refl _
theorem jI.drops:∀(l:List (Nat × Int)) (k:Kp),jI k (kG k l)
 | [],k => .refl k
 | u::l,k=>(jI.drop k u.1 u.2).trans (jI.drops l _)
theorem jI.swap (f n:Int) (k:Kp) (u:Nat × Int):jI k (Fg f n k u):=(jI.hold _ _ _).trans (jI.enter _ _ _ _)
theorem jI.swaps (f n:Int):∀(l:List (Nat × Int)) (k:Kp),jI k (qL k f n l)
 | [],k => .refl k
 | u::l,k=>(jI.swap f n k u).trans (jI.swaps f n l _)
theorem jI.clean (k:Kp) (f:Nat):jI k (je k f):=by
 unfold je;simp only;split
 ·exact .refl _
 ·exact⟨rfl,rfl,bI⟩
theorem Lb (k:Kp) (l:List (Nat × Int)) (j:Nat) (h:j<l.length):kG k (l.take (j+1))=qd (kG k (l.take j)) l[j].1 l[j].2:=by
 unfold kG;rw[mQ,aG h,CJ];rfl
theorem Lt (k:Kp) (f n:Int) (l:List (Nat × Int)) (j:Nat) (h:j<l.length):qL k f n (l.take (j+1))=Fg f n (qL k f n (l.take j)) l[j]:=by
 unfold qL;rw[mQ,aG h,CJ];rfl
theorem nM.stay (h:nM w B v ps) (hg:w.grownBy w' none):nM w' B v ps:=⟨kC h.own hg,fun k p hp=>kC (h.each k p hp) hg,h.apart⟩
theorem qD.stay {t:Tb} (h:qD w B cs t) (hg:w.grownBy w' none):qD w' B cs t:=
 ⟨h.sz,fun k hk=>by obtain⟨v,h1,h2⟩:=h.own k hk;exact⟨v,h1,kC h2 hg⟩,h.apart⟩
theorem kR.cache {e:Int} (h:kR w B b H e) (s:KS w0 b H0 w H) (hg:w.grownBy w1 (oB H.ac)) {l:List Cc} (ho:Own w1 B 106 3 (.slice a l.length c) l.length (l.flatMap mh)) (hsn:oB a=oB H.ac∨∀g,oB a=some g→w0.heap.size≤g) :
  aC w1 b (uE H e) 96∧∀w2,aC w2 b (bA (uE H e) 9 [.slice a l.length c]) 96→w1.grownBy w2 (some b)→kR w2 B b { H with ac:=a,cc:=c,ca:=l } e∧KS w0 b H0 w2 { H with ac:=a,cc:=c,ca:=l }:=by
 have hK:aC w1 b (uE H e) 96:=by refine h.blk.grown hg fun e => ?_;obtain⟨_,cs,hb⟩:=iK h.ma.ca e;exact lJ h.blk hb (by decide) rfl
 have hm:uj w1 B { H with ac:=a,cc:=c,ca:=l }:=by
  cases hac:oB H.ac with
  | none=>
   rw[hac] at hg;exact⟨kC h.ma.fr hg,kC h.ma.sl hg,⟨kC h.ma.sw.b hg,kC h.ma.sw.q hg⟩,⟨kC h.ma.dk.b hg,kC h.ma.dk.q hg⟩,h.ma.st.stay hg,ho,kC h.ma.sp hg,fun q hq=>⟨kC (h.ma.ps q hq).1 hg,(h.ma.ps q hq).2.stay hg⟩,h.ma.c64⟩
  | some g=>
   rw[hac] at hg;obtain⟨_,cs,hb⟩:=iK h.ma.ca hac;exact⟨ak h.ma.fr hb (by decide) hg,ak h.ma.sl hb (by decide) hg,h.ma.sw.keep hb (by decide) (by decide) hg,h.ma.dk.keep hb (by decide) (by decide) hg,h.ma.st.keep hb (by decide) (by decide) hg,ho,ak h.ma.sp hb (by decide) hg,fun q hq=>⟨ak (h.ma.ps q hq).1 hb (by decide) hg,(h.ma.ps q hq).2.keep hb (by decide) hg⟩,h.ma.c64⟩
 have s1:KS w0 b H0 w1 H:=by
  cases hac:oB H.ac with
  | none=>
   rw[hac] at hg;exact⟨hg.os.trans s.os,hg.tape.trans s.tape,hg.output.trans s.output,aX s.size hg.size,fun x hx hn=>(hg.block x (pX hx s.size) (by simp)).trans (s.keep x hx hn),s.sn⟩
  | some g=>rw[hac] at hg;exact s.put hg (.inr (.inr (.inl hac))) fun x hx => .inl hx
 refine⟨hK,fun w2 hb hg2=>⟨⟨hb,h.ge,?_,h.tz⟩,s1.put hg2 (.inl rfl) fun x hx => ?_⟩⟩
 ·exact⟨ak hm.fr hK (by decide) hg2,ak hm.sl hK (by decide) hg2,hm.sw.keep hK (by decide) (by decide) hg2,hm.dk.keep hK (by decide) (by decide) hg2,hm.st.keep hK (by decide) (by decide) hg2,ak hm.ca hK (by decide) hg2,ak hm.sp hK (by decide) hg2,fun q hq=>⟨ak (hm.ps q hq).1 hK (by decide) hg2,(hm.ps q hq).2.keep hK (by decide) hg2⟩,hm.c64⟩
 rcases hx with hx|hx|hx|hx
 ·exact .inl (.inl hx)
 ·exact .inl (.inr (.inl hx))
 ·rcases hsn with e|e
  ·exact .inl (.inr (.inr (.inl (by rw[←e];exact hx))))
  ·exact .inr (e x hx)
 ·exact .inl (.inr (.inr (.inr hx)))
theorem NF {k:Kp} (h:iY k.m f=false):je k f=k:=by
 unfold iY at h;simp only[zg,decide_eq_false_iff_not] at h;unfold je;simp only;rw[if_pos (.inr (.inr h.2))]
theorem MG (u:Nat × Int):(uC u).all (·.oneCell')=true:=by simp[uC,Value.oneCell']
theorem slca_size:(Tryz.prog.info? 38).map (·.size)=some 1:=by kernel_rfl
theorem Uz {l:List (Nat × Int)} (h:dN w a (l.flatMap uL)) (k:Nat) (hk:k<l.length):∃b off,a=some ⟨b,off,none⟩∧dN w (some ⟨b,off+k*2,none⟩) [.int .i64 l[k].1,.int .i64 l[k].2]:=jH UF (by decide) h k hk
theorem Lx (H:MH) (e:Int) (f:Nat) (B b:Nat) (w:World) (h:kR w B b H e) (hf:f<H.m.fs.length) (hz:H.sp.length≤1000) (hz2:H.ca.length≤1000) :
  Calls Tryz.prog 90 #[.pointer (some ⟨b,0,none⟩),.int .i64 f] w fun r w'=>r = .returned (.bool (lK H.ma f))∧KR w B b H w' (fw ⟨H.ma,e⟩ f):=by
 obtain⟨g,off,cur,haf,hBg,hblk,hfit,hrd,hat,hbg,hset⟩:=h.frame hf;generalize hx:aT H.ma f=x at *
 have hx':=Lib.hid hx;clear hx hset hat;have hc:=h.blk.cell;unfold uE at hc;rw[haf] at hc;have hfi:(f:Int)<(H.m.fs.length:Int):=by omega
 go_enter func90,ntmps90
 go_wp2_with (first | (refine ax _ _ rfl g (off+f*13) rfl rfl _ hrd _ underlying81 rfl frame_size ?_) | (refine aI rfl _ _ _ rfl (vK x) rfl rfl rfl frame_size (oZ x) ?_))
 intro w1 hb1 hx1;have h1:=h.below hb1;have s1:=(KS.refl w b H).below hb1;have hkb1:¬kb b H w.heap.size:=fun hk=>by obtain⟨cs,T,hb,_⟩:=h.kb_T hk;have:=hb.lt;omega
 have hBs:=Lib.hid h.bs;clear hc hrd hblk hfit hb1 hBg hbg haf h
 go_wp2_with fail
 refine (KN H e f B b _ h1 hz).mono ?_;rintro r w2 ⟨v2,rfl,ho2,hb2⟩;obtain⟨a2,c2,rfl,_⟩:=ho2.rd;have h2:=h1.below hb2;have s2:=s1.below hb2;have hx2:=hx1.ext hb2;have hlx:=hx1.lt;clear h1 s1 hx1 hb2;have hcx:=hx2.cell;unfold vK at hcx
 by_cases hxf:0≤x.f
 ·go_wp2_with fail
  refine (DU H e f B b _ h2 hf).mono ?_;rintro r w3 ⟨rfl,H3,e3,h3,s3,q3⟩;have ho3:=s3.own h2 (ho2.mono (aS _)) (by decide);have hkb2:¬kb b H w.heap.size:=hkb1;have hx3:=s3.blkN hx2 hkb2;have hkb3:¬kb b H3 w.heap.size:=fun hk=>(s3.sn _ hk).elim hkb2 (fun hh=>by have:=hx2.lt;omega);have s03:=s2.trans s3;have hl3:H3.sp.length=H.sp.length∧H3.ca=H.ca∧H3.m.fs.length=H.m.fs.length:=by have hq:=jI.clean ⟨H.ma,e⟩ f;rw[←q3] at hq;exact⟨by have:=hq.sp;simp only[CR] at this;exact this,hq.ca,hq.fs⟩
  have hx2lt:=hx2.lt;clear hcx hx2 ho2 h2 s2 s3 hkb1 hkb2;cases hcb:iY H.ma f with
  | false=>
   have hq:Hid (fw ⟨H.ma,e⟩ f=⟨H.ma,e⟩∧lK H.ma f=false):=Lib.hid (by unfold fw lK;simp only[hx'.out];rw[if_pos hxf,if_pos hcb,if_pos hxf];exact⟨rfl,hcb⟩);rw[NF (k:=⟨H.ma,e⟩) hcb] at q3;have hq3:=Lib.hid q3;clear q3 hx3;go_wp2;go_ret;rw[hq.out.1,hq.out.2];exact⟨rfl,_,_,h3,s03,hq3.out⟩
  | true=>
   have hu:Hid (bi H.ma f=bi H.ma f):=Lib.hid rfl;have hlu:(bi H.ma f).length≤64000:=by
    have:=BR H.ma f H.sp.length;have e1:rG H.ma f H.sp.length=bi H.ma f:=by unfold rG bi;rw[CR]
    rw[e1] at this;omega
   obtain⟨k3,hk3⟩:∃k,k=je ⟨H.ma,e⟩ f:=⟨_,rfl⟩;rw[←hk3] at q3;have hp1:∀u∈bi H.ma f,u.1<H.sp.length:=fun u hu=>by have:=(uu.1 hu).1;rw[CR] at this;exact this
   have hq:Hid (lK H.ma f=true∧fw ⟨H.ma,e⟩ f=if PV (kG k3 (bi H.ma f)).m.ca x.f x.i=true then iE ⟨{ (kG k3 (bi H.ma f)).m with ca:=(kG k3 (bi H.ma f)).m.ca.eraseIdx (yx (kG k3 (bi H.ma f)).m.ca x.f x.i) },(kG k3 (bi H.ma f)).e⟩ f (-1) else kG k3 (bi H.ma f)):=Lib.hid (by unfold fw lK;simp only[hx'.out];rw[if_pos hxf,if_pos hxf,if_neg (by rw[hcb];decide),hk3];exact⟨hcb,rfl⟩);generalize bi H.ma f=l at *
   have q3':=Lib.hid q3;have hp1':=Lib.hid hp1;clear q3 hcb hk3 hu hp1;go_upto_region 7 with (fail)
   go_loopw [38] (fun s38 wr => ∃(j:Nat) (Hj:MH) (ej:Int),j≤l.length∧s38 = .int .i64 j∧kR wr B b Hj ej∧KS w b H wr Hj∧Hid (Kp.mk Hj.ma ej=kG k3 (l.take j))∧Own wr 0 193 2 (.slice a2 l.length c2) l.length (l.flatMap uL)∧aC wr w.heap.size (vK x) 81∧¬kb b Hj w.heap.size∧Hj.sp.length=H.sp.length∧Hj.ca=H.ca) (fun s38 _=>l.length-(intOf s38).toNat)
   case atStart=>exact⟨0,H3,e3,aS _,rfl,h3,s03,Lib.hid (by rw[q3'.out];rfl),ho3,hx3,hkb3,hl3.1,hl3.2.1⟩
   case round=>
    clear ho3 hx3 hkb3 h3 s03;obtain⟨j,Hj,ej,hj,rfl,hj3,sj3,qj,hoj,hxj,hkbj,hlj,hcj⟩:=hrel
    by_cases hjl:j<l.length
    ·have hji:(j:Int)<(l.length:Int):=by omega
     obtain⟨_,_,e9,_,_,_,hrL⟩:=hoj.rd;cases e9;obtain⟨bl,ol,rfl,hrl⟩:=Uz hrL j hjl;have hul:l[j].1<H.sp.length:=hp1'.out _ (dP hjl)
     go_wp2_with (first | (refine ax _ _ rfl bl (ol+j*2) rfl rfl _ hrl _ underlying193 rfl us_size ?_) | (refine aI rfl _ _ _ rfl (uC l[j]) rfl rfl rfl us_size (MG _) ?_))
     intro w5 hb5 hx5;have h5:=hj3.below hb5;have s5:=sj3.below hb5;have ho5:=hoj.below hb5;have hxb5:=hxj.ext hb5;have hlx5:=hxb5.lt;clear hj3 sj3 hoj hxj hrL hrl hb5;have hc5:=hx5.cell;unfold uC at hc5
     go_wp2_with fail
     refine (Pn Hj ej l[j].2 l[j].1 B b _ h5 (by rw[hlj];exact hul)).mono ?_;rintro r w6 ⟨rfl,H6,e6,h6,s6,q6⟩;have ho6:=s6.own h5 ho5 (by decide);have hx6:=s6.blkN hxb5 hkbj;have hkb6:¬kb b H6 w.heap.size:=fun hk=>(s6.sn _ hk).elim hkbj (fun hh=>by omega);have s06:=s5.trans s6;have hl6:H6.sp.length=H.sp.length∧H6.ca=H.ca:=by have hq:=jI.drop ⟨Hj.ma,ej⟩ l[j].1 l[j].2;rw[←q6] at hq;exact⟨by have:=hq.sp;simp only[CR] at this;rw[this,hlj],by have:=hq.ca;exact Eq.trans this hcj⟩
     have hq6:Hid (Kp.mk H6.ma e6=kG k3 (l.take (j+1))):=Lib.hid (by rw[Lb k3 l j hjl,←qj.out];exact q6);clear q6 h5 s5 ho5 hxb5 hc5 hx5 s6;go_wp2;go_roundw
     case rel=>exact⟨j+1,H6,e6,by omega,by go_num,h6,s06,hq6,ho6,hx6,hkb6,hl6.1,hl6.2⟩
     case measure=>simp[intOf];omega
    have hji:¬(j:Int)<(l.length:Int):=by omega
    rw[iF (by omega)] at qj;clear hoj;generalize hkd:kG k3 l=kd at *
    clear hkd;have hcx:=hxj.cell;unfold vK at hcx;have hqj:=Lib.hid (show kd.m.ca=Hj.ca by rw[←qj.out];rfl);have hce:Hj.ca.length≤1000:=by rw[hcj];exact hz2
    clear hcj hlj
    go_wp2_with fail
    refine (Tt Hj ej x.f x.i B b _ hj3).mono ?_;rintro r w5 ⟨rfl,hb5⟩;have h5:=hj3.below hb5;have s5:=sj3.below hb5;clear hj3 sj3 hb5 hcx hxj;cases hi:PV Hj.ca x.f x.i with
    | false=>
     have hq2:Hid (fw ⟨H.ma,e⟩ f=kd):=Lib.hid (by rw[hq.out.2,hqj.out,hi];rfl);generalize yx Hj.ca x.f x.i=k at *
     go_wp2;go_ret;rw[hq.out.1,hq2.out];exact⟨rfl,_,_,h5,s5,qj.out⟩
    | true=>
     have hq2:Hid (fw ⟨H.ma,e⟩ f=iE ⟨{ kd.m with ca:=Hj.ca.eraseIdx (yx Hj.ca x.f x.i) },kd.e⟩ f (-1)):=Lib.hid (by rw[hq.out.2,hqj.out,hi,if_pos rfl]);obtain⟨c,hc,_,_⟩:=Qs hi;have hkl:=(bW.1 hc).1;clear hc hi;generalize yx Hj.ca x.f x.i=k at *
     have hck:=h5.blk.cell;unfold uE at hck;have hki:(k:Int)+1≤1000:=by omega
     have hw1:IntKind.i64.wrap ((k:Int)+1)=(k:Int)+1:=bJ _ (by omega)
     go_wp2_with fail
     refine (Ju Hj.ca k hkl Hj.ac Hj.cc B _ h5.ma.ca hce).mono ?_;rintro r w6 ⟨rfl,ho6,hg6⟩;have hlen:(Hj.ca.eraseIdx k).length=Hj.ca.length-1:=yH hkl;rw[←hlen] at ho6;obtain⟨hK,hst⟩:=h5.cache s5 hg6 (a:=Hj.ac) (c:=Hj.cc) (l:=Hj.ca.eraseIdx k) ho6 (.inl rfl);rw[hlen] at hst;clear hck h5 s5 ho6 hg6
     go_wp2_with (refine aA rfl _ _ _ rfl b 9 _ [.slice Hj.ac (Hj.ca.length-1) Hj.cc] rfl rfl rfl _ _ hK (by show 9+1≤12;decide) slca_size (fun u hu=>by cases bq.1 hu;rfl) ?_)
     intro w7 hb7 hg7;obtain⟨h7,s7⟩:=hst w7 hb7 hg7;clear hst hK hb7 hg7
     go_wp2_with fail
     refine (AB _ ej f (-1) B b _ h7).mono ?_;rintro r w8 ⟨rfl,hk8⟩;go_wp2;go_ret;rw[hq.out.1,hq2.out,←qj.out];exact⟨rfl,KR.trans s7 hk8⟩
 have hcb2:=h2.blk.cell;unfold uE at hcb2;have hm:=h2.ma.rd.sl;have hlu:(bi H.ma f).length≤64000:=by
  have:=BR H.ma f H.sp.length;have e1:rG H.ma f H.sp.length=bi H.ma f:=by unfold rG bi;rw[CR]
  rw[e1] at this;omega
 have hp1:∀u∈bi H.ma f,u.1<H.sp.length:=fun u hu=>by have:=(uu.1 hu).1;rw[CR] at this;exact this
 have hqB:Hid (lK H.ma f=decide (gP H.sl (bi H.ma f).length=0)):=Lib.hid (by unfold lK;rw[hx'.out,if_neg hxf];rfl);have hqK:Hid (fw ⟨H.ma,e⟩ f=if gP H.sl (bi H.ma f).length≠0 then ⟨H.ma,e⟩ else qL ⟨{ H.ma with sl:=lF H.sl (bi H.ma f).length,sw:=dC H.sw (jA H.sl (bi H.ma f).length) x.p },jd e (aL H.sw (jA H.sl (bi H.ma f).length))⟩ f (jA H.sl (bi H.ma f).length) (bi H.ma f)):=Lib.hid (by unfold fw;simp only[hx'.out];rw[if_neg hxf];rfl);generalize bi H.ma f=l at *
 have hp1':=Lib.hid hp1;clear hp1
 go_wp2_with fail
 refine (LB H.sl H.asl H.csl (l.length:Int) _ hm.le hm.nl hm.rd (by have:=hm.le;have:=hm.mx;unfold maxLen at this;omega)).mono ?_;rintro r w3 ⟨v3,rfl,ho3,hb3⟩;obtain⟨a3,c3,rfl,_⟩:=ho3.rd;have k3:=h2.below hb3;have s3:=s2.below hb3;have kx3:=hx2.ext hb3;have ho23:=ho2.below hb3;have hws:=Lib.hid s2.size;clear hcx hcb2 h2 s2 hx2 ho2 hb3 hm
 by_cases hE:gP H.sl l.length=0
 ·have hq:Hid (lK H.ma f=true∧fw ⟨H.ma,e⟩ f=qL ⟨{ H.ma with sl:=lF H.sl l.length,sw:=dC H.sw (jA H.sl l.length) x.p },jd e (aL H.sw (jA H.sl l.length))⟩ f (jA H.sl l.length) l):=Lib.hid (by rw[hqB.out,hqK.out,hE];exact⟨rfl,rfl⟩);rw[hE];clear hE hqB hqK;generalize jA H.sl l.length=N at *
  go_upto_region 19 with (fail);refine mW 15 [_,_,_,_,_,_,_,_,.r 8 ((BI w3.heap.size (dC H.sw N x.p) (aL H.sw N))),.r 9 ((BI w3.heap.size (dC H.sw N x.p) (aL H.sw N))),.r 10 ((xC w3.heap.size (dC H.sw N x.p))),.v (.int .i64 (aL H.sw N)),.r 12 ((kv w3.heap.size 34 2)),.y 13 ((Qu 12 w3.heap.size 34 (xC w3.heap.size (dC H.sw N x.p)))),.v (.int .i64 (aL H.sw N))] (fun W=>Below w3.heap.size w3 W) gB (Below.refl _ _) (Yk gB rfl (Yk gB rfl (Yf gB b 0 rfl rfl (Yf gB b 3 rfl rfl (Yr gB (.agg #[.slice H.wb H.sw.blocks.length H.cwb,.slice H.wq H.sw.queue.length H.cwq]) (fun ρ y W hb hKn=>(bB rfl (aD rfl hKn) (k3.below hb).rdW underlying34 rfl disk_size)) rfl rfl (Yk gB rfl (Yf gB w.heap.size 0 rfl rfl (Yr gB (.agg (iq x.p)) (fun ρ y W hb hKn=>(bB rfl (aD rfl hKn) (bF (kx3.ext hb) 0 8) underlying79 rfl psize)) rfl rfl (ag ?_ (ag ?_ (ag ?_ (ag ?_ (ag ?_ (ag ?_ (Yk gB rfl (aB)))))))))))))))) (fun _=>rfl) rfl ?_
  ·intro ρ y W hw hn hb hd;refine lM gB hb ((BI w3.heap.size (dC H.sw N x.p) (aL H.sw N))) (fun _ _ h=>h) ?_;have E94:=hw 94 4 rfl;have h4:y 4 = .agg #[.slice H.wb H.sw.blocks.length H.cwb,.slice H.wq H.sw.queue.length H.cwq]:=hd 4 rfl;have E95:=hw 95 5 rfl;have h5:y 5 = .int .i64 N:=hd 5 rfl;have E97:=hw 97 7 rfl;have h7:y 7 = .agg (iq x.p):=hd 7 rfl;have EF:∀f,ρ (.func f) = .func (.func f) #[] #[]:=fun f=>hn (.func f) trivial;refine aO _ _ (ah rfl) (aQ rfl (EF _) func92 (by kernel_rfl) (by kernel_rfl) (by simp only[bP,bM,bN,E94,h4,E95,h5,E97,h7,EF];rfl)) ?_;refine (Eg H.sw N x.p H.wb H.cwb H.wq H.cwq W (k3.below hb).ma.rd.sw).mono ?_;rintro r W3 ⟨vb,vq,rfl,ho,hb3⟩;exact⟨_,rfl,hb3,vb,vq,rfl,ho.mono hb.size⟩
  ·intro ρ y W hw hn hb hd;refine lM gB hb ((BI w3.heap.size (dC H.sw N x.p) (aL H.sw N))) (fun _ _ h=>h) ?_;have E98:=hw 98 8 rfl;have h8:=hd 8 rfl;refine aj _ (ah rfl) (run_move (.inl rfl) E98) ?_;exact h8
  ·intro ρ y W hw hn hb hd;refine lM gB hb ((xC w3.heap.size (dC H.sw N x.p))) (fun _ _ h=>h) ?_;have E89:=hw 89 9 rfl;have h9:=hd 9 rfl;obtain⟨vb,vq,hu,ho⟩:=h9;refine aj (.agg #[vb,vq]) (ah rfl) (by simp[execOp,go_sem,cZ,E89,hu]) ?_;exact⟨vb,vq,rfl,ho⟩
  ·intro ρ y W hw hn hb hd;refine lM gB hb (uy (.int .i64 (aL H.sw N))) (fun _ _ h=>h) ?_;have E89:=hw 89 9 rfl;have h9:=hd 9 rfl;obtain⟨vb,vq,hu,ho⟩:=h9;refine aj (.int .i64 (aL H.sw N)) (ah rfl) (by simp[execOp,go_sem,cZ,E89,hu]) rfl
  ·intro ρ y W hw hn hb hd;refine lM gB hb ((kv w3.heap.size 34 2)) (fun _ _ h=>h) ?_;refine jL (.pointer (some ⟨W.heap.size,0,none⟩)) (ah rfl) (by simp[execOp,go_sem,cZ]) ((Below.refl _ _).alloc (ay _) (.cells #[.slice none 0 0,.slice none 0 0] 34)) ?_;exact⟨_,_,rfl,hb.size,aC.new _ _ _,rfl⟩
  ·intro ρ y W hw hn hb hd;have E14:=hw 14 12 rfl;have h12:=hd 12 rfl;have E99:=hw 99 10 rfl;have h10:=hd 10 rfl;obtain⟨vb,vq,e7,ho7⟩:=h10;obtain⟨g3,cur3,e9,hg9,hb9,hs9⟩:=h12;obtain⟨ab,cb,rfl,_⟩:=ho7.b.rd;obtain⟨aq,cq,rfl,_⟩:=ho7.q.rd;refine rF (ah rfl) _ _ _ rfl g3 0 (.agg #[.slice ab _ cb,.slice aq _ cq]) [.slice ab _ cb,.slice aq _ cq] (E14.trans e9) (E99.trans e7) rfl cur3 _ hb9 (by rw[hs9];exact ay _) disk_size (bR (kQ _ _ _ _ _ _)) ?_;intro w1 hw1 hgr;rw[show ∀(p q:Value),[p,q]=(#[p,q]:Array Value).toList from fun _ _=>rfl,iO cur3 _ (by rw[hs9];rfl)] at hw1;refine⟨hb.grown hgr hb.size (fun k hk=>by cases hk;exact hg9),⟨g3,_,e9,hg9,hw1,⟨_,_,rfl,ho7.keep hb9 (by decide) (by decide) hgr⟩⟩,?_⟩;intro k hk hne
   match k,hk,hne with
   | 0,_,_=>exact fun h=>h
   | 1,_,_=>exact fun h=>h
   | 2,_,_=>exact fun h=>h
   | 3,_,_=>exact fun h=>h
   | 4,_,_=>exact fun h=>h
   | 5,_,_=>exact fun h=>h
   | 6,_,_=>exact fun h=>h
   | 7,_,_=>exact fun h=>h
   | 8,_,_=>exact fun⟨c,q0,q1,q2⟩=>⟨c,q0,q1,q2.keep hb9 (by decide) (by decide) hgr⟩
   | 9,_,_=>exact fun⟨c,q0,q1,q2⟩=>⟨c,q0,q1,q2.keep hb9 (by decide) (by decide) hgr⟩
   | 10,_,_=>exact fun⟨c,q0,q1,q2⟩=>⟨c,q0,q1,q2.keep hb9 (by decide) (by decide) hgr⟩
   | 11,_,_=>exact fun h=>h
   | 12,_,_=>exact fun q=>pF q hw1 (fun _=>rfl) ⟨_,hb9⟩ hgr
   | 13,_,h=>exact absurd rfl h
   | 14,_,_=>exact fun h=>h
   | n+15,h,_=>exact absurd h (by omega)
  intro y W4 hbW4 hRW4;replace hbW4:Below w3.heap.size w3 W4:=hbW4;have hy8:((BI w3.heap.size (dC H.sw N x.p) (aL H.sw N))).r (y 8) W4:=hRW4 8 (by decide);have hy9:((BI w3.heap.size (dC H.sw N x.p) (aL H.sw N))).r (y 9) W4:=hRW4 9 (by decide);have hy10:((xC w3.heap.size (dC H.sw N x.p))).r (y 10) W4:=hRW4 10 (by decide);have hy12:((kv w3.heap.size 34 2)).r (y 12) W4:=hRW4 12 (by decide);have hy13:=hRW4 13 (by decide);clear hRW4;simp only[bT,cZ,bM,bN];obtain⟨gd,cd,hyd,hgd,hbd,vb,vq,hcd,ho4⟩:=hy13;simp only[Cy] at hcd;subst hcd;obtain⟨ab,cb,rfl,_⟩:=ho4.b.rd;obtain⟨aq,cq,rfl,_⟩:=ho4.q.rd;have k4:=k3.below hbW4;have s4:=s3.below hbW4;have kx4:=kx3.ext hbW4;have ho24:=ho23.below hbW4;have ho34:=ho3.below hbW4;have hw3:=Lib.hid s3.size;have hlx4:=kx4.lt;clear hy8 hy9 hy10 hy12 k3 s3 kx3 ho23 ho3 hbW4
  go_wp2_with fail
  refine (tY _ e (aL H.sw N) _ _ _ k4).mono ?_;rintro r w5 ⟨rfl,k5,hg5⟩;have s5:=s4.putB hg5 rfl rfl rfl;have kx5:aC w5 w.heap.size (vK x) 81:=kx4.grown hg5 (fun e=>hkb1 (.inl (aJ e).symm));have ho25:=ak ho24 k4.blk (by decide) hg5;have ho35:=ak ho34 k4.blk (by decide) hg5;have ho5:=ho4.keep k4.blk (by decide) (by decide) hg5;have hbd5:=bu hbd k4.blk (by decide) hg5;clear k4 s4 kx4 ho24 ho34 ho4 hbd hg5;have hcb:=k5.blk.cell;have hfb:=k5.blk.free;unfold uE at hcb;have hcd:=hbd5.cell;have n2:=lJ k5.blk hbd5 (by decide);go_upto_region 21 with (fail)
  go_region
  refine RD (w:=w5.setCells b 2 [.slice a3 (lF H.sl l.length).length c3]) (b:=b) (o:=3) (vs:=[.slice ab (dC H.sw N x.p).blocks.length cb,.slice aq (dC H.sw N x.p).queue.length cq]) (fun W=>Exit.then _ _ _ _ W) fun w7 hg7 hb7 => ?_;have hg6:=aH w5 b 2 [.slice a3 (lF H.sl l.length).length c3];have hb6:=k5.blk.setCells [.slice a3 (lF H.sl l.length).length c3] 2;have k6:=k5.setL (ho35.mono (aX hBs.out hws.out)) hb6 hg6;have s6:=s5.putB (H':={ H with asl:=a3,csl:=c3,sl:=lF H.sl l.length }) hg6 rfl rfl rfl;have ho6:=ho5.keep k5.blk (by decide) (by decide) hg6;have ho26:=ak ho25 k5.blk (by decide) hg6;have kx6:=kx5.grown hg6 (fun e=>hkb1 (.inl (aJ e).symm));have hb7':=hb7 k6.blk;have k7:=k6.setW (ho6.mono (aX hBs.out hw3.out)) hb7' hg7;have s7:=s6.putB (H':={ H with asl:=a3,csl:=c3,sl:=lF H.sl l.length,wb:=ab,cwb:=cb,wq:=aq,cwq:=cq,sw:=dC H.sw N x.p }) hg7 rfl rfl rfl;have ho27:=(ak ho26 k6.blk (by decide) hg7).mono (aS _);have kx7:=kx6.grown hg7 (fun e=>hkb1 (.inl (aJ e).symm));clear hb7 hb7' hg7 k6 s6 ho6 ho26 kx6 hb6 hg6 k5 s5 kx5 ho25 ho35 ho5 hbd5 hcb hfb hcd;generalize hH7:({ H with asl:=a3,csl:=c3,sl:=lF H.sl l.length,wb:=ab,cwb:=cb,wq:=aq,cwq:=cq,sw:=dC H.sw N x.p }:MH)=H7 at k7 s7;have hm7:Hid (Kp.mk H7.ma (jd e (aL H.sw N))=⟨{ H.ma with sl:=lF H.sl l.length,sw:=dC H.sw N x.p },jd e (aL H.sw N)⟩):=Lib.hid (by rw[←hH7];rfl);have hl7:H7.sp.length=H.sp.length:=by rw[←hH7]
  rw[←hm7.out] at hq;clear hH7 hm7;generalize jd e (aL H.sw N)=e7 at *
  generalize hk7:Kp.mk H7.ma e7=kk at *
  have hk7':=Lib.hid hk7;clear hk7;go_upto_region 23 with (fail)
  go_loopw [116] (fun s116 wr => ∃(j:Nat) (Hj:MH) (ej:Int),j≤l.length∧s116 = .int .i64 j∧kR wr B b Hj ej∧KS w b H wr Hj∧Hid (Kp.mk Hj.ma ej=qL kk f N (l.take j))∧Own wr 0 193 2 (.slice a2 l.length c2) l.length (l.flatMap uL)∧Hj.sp.length=H.sp.length) (fun s116 _=>l.length-(intOf s116).toNat)
  case atStart=>exact⟨0,H7,e7,aS _,rfl,k7,s7,Lib.hid (by rw[hk7'.out];rfl),ho27,hl7⟩
  case round=>
   clear k7 s7 ho27 kx7;obtain⟨j,Hj,ej,hj,rfl,hj3,sj3,qj,hoj,hlj⟩:=hrel
   by_cases hjl:j<l.length
   ·have hji:(j:Int)<(l.length:Int):=by omega
    obtain⟨_,_,e9,_,_,_,hrL⟩:=hoj.rd;cases e9;obtain⟨bl,ol,rfl,hrl⟩:=Uz hrL j hjl;have hul:l[j].1<H.sp.length:=hp1'.out _ (dP hjl)
    go_wp2_with (first | (refine ax _ _ rfl bl (ol+j*2) rfl rfl _ hrl _ underlying193 rfl us_size ?_) | (refine aI rfl _ _ _ rfl (uC l[j]) rfl rfl rfl us_size (MG _) ?_))
    intro w8 hb8 hx8;have k8:=hj3.below hb8;have s8:=sj3.below hb8;have ho8:=hoj.below hb8;clear hj3 sj3 hoj hrL hrl hb8
    go_wp2_with fail
    refine (AB Hj ej f (-1) B b _ k8).mono ?_;rintro r w9 ⟨rfl,H9,e9,k9,s9,q9⟩;have ho9:=s9.own k8 ho8 (by decide);have hx9:=s9.blk k8 hx8 (by decide);have s09:=s8.trans s9;have hl9:H9.sp.length=H.sp.length:=by have hq:=jI.hold ⟨Hj.ma,ej⟩ f (-1);rw[←q9] at hq;have:=hq.sp;simp only[CR] at this;rw[this,hlj]
    have q9':=Lib.hid q9;clear k8 s8 ho8 hx8 s9 q9;have hc9:=hx9.cell;unfold uC at hc9
    go_wp2_with fail
    refine (uK H9 e9 l[j].2 l[j].1 ⟨2,N,false⟩ B b _ k9 (by rw[hl9];exact hul)).mono ?_;rintro r w6 ⟨rfl,H6,e6,h6,s6,q6⟩;have ho6:=s6.own k9 ho9 (by decide);have s06:=s09.trans s6;have hq6:Hid (Kp.mk H6.ma e6=qL kk f N (l.take (j+1))):=Lib.hid (by rw[Lt kk f N l j hjl,←qj.out];unfold Fg;rw[←q9'.out];exact q6);have hl6:H6.sp.length=H.sp.length:=by have hq:=jI.enter ⟨H9.ma,e9⟩ l[j].1 l[j].2 ⟨2,N,false⟩;rw[←q6] at hq;have:=hq.sp;simp only[CR] at this;rw[this,hl9]
    clear q6 k9 s09 ho9 hc9 hx9 s6;go_wp2;go_roundw
    case rel=>exact⟨j+1,H6,e6,by omega,by go_num,h6,s06,hq6,ho6,hl6⟩
    case measure=>simp[intOf];omega
   have hji:¬(j:Int)<(l.length:Int):=by omega
   rw[iF (by omega)] at qj;clear hoj;go_wp2;go_ret;rw[hq.out.1,hq.out.2];exact⟨rfl,_,_,hj3,sj3,qj.out⟩
 have hq:Hid (lK H.ma f=false∧fw ⟨H.ma,e⟩ f=⟨H.ma,e⟩):=Lib.hid (by rw[hqB.out,hqK.out,if_pos hE];exact⟨decide_eq_false hE,rfl⟩);go_wp2;go_ret;rw[hq.out.1,hq.out.2];exact⟨rfl,_,_,k3,s3,rfl⟩
structure BD (k k' : Kp):Prop where
 sp:k'.m.sp.length=k.m.sp.length
 ca:k'.m.ca.length≤k.m.ca.length
 fs:k'.m.m.fs.length=k.m.m.fs.length
theorem BD.refl (k:Kp):BD k k:=⟨rfl,ay _,rfl⟩
theorem BD.trans {a b c:Kp} (h:BD a b) (k:BD b c):BD a c:=⟨k.sp.trans h.sp,aX k.ca h.ca,k.fs.trans h.fs⟩
theorem jI.l {a b:Kp} (h:jI a b):BD a b:=⟨h.sp,by rw[h.ca];exact ay _,h.fs⟩
theorem BD.evict (k:Kp) (f:Nat):BD k (fw k f):=by
 unfold fw;simp only;split
 ·split
  ·exact .refl _
  have h1:=(jI.clean k f).trans (jI.drops (bi k.m f) (je k f));split
  ·refine (BD.trans ?_ (jI.hold _ f (-1)).l);exact⟨h1.sp,by show (List.eraseIdx _ _).length≤_;rw[h1.ca];exact List.length_eraseIdx_le _ _,h1.fs⟩
  ·exact h1.l
 split
 ·exact .refl _
 refine BD.trans ?_ (jI.swaps _ _ _ _).l;exact⟨rfl,ay _,rfl⟩
theorem NH {m:Mem} (h:bK m=0):(fG m).fs.length=m.fs.length:=by
 unfold fG;rw[if_neg (by rw[h];simp)];split
 ·rfl
 ·exact iJ _ _
theorem Rn {m:Mem} (h:bK m=0) (hk:¬iH m<0):(iH m).toNat<m.fs.length∧iH m=(((iH m).toNat:Nat):Int):=by
 unfold iH at hk ⊢;rw[if_neg (by rw[h];simp)] at hk ⊢;split at hk
 ·omega
 rename_i hne;rw[if_neg hne];have hpos:0<m.fs.length:=by
  rcases si m.fs.length with h0|h0
  ·have:=CW m.fs;omega
  ·exact h0
 rw[bU];exact⟨nY hpos _,rfl⟩
theorem WC {k:Kp} {e:Int} (q:Kp.mk H.ma e=k):H.sp.length=k.m.sp.length∧H.ca=k.m.ca∧H.m=k.m.m:=by
 subst q;exact⟨(CR H).symm,rfl,rfl⟩
theorem GG (H:MH) (e:Int) (B b:Nat) (w:World) (h:kR w B b H e) (hz:H.sp.length≤1000) (hz2:H.ca.length≤1000) (hz3:H.m.fs.length≤1000) :
  Calls Tryz.prog 56 #[.pointer (some ⟨b,0,none⟩)] w fun r w'=>r = .returned (.bool (eX ⟨H.ma,e⟩).2)∧KR w B b H w' (eX ⟨H.ma,e⟩).1:=by
 have hc:=h.blk.cell;unfold uE at hc;have hBs:=Lib.hid h.bs;go_enter func56,ntmps56;have hw0:IntKind.i64.wrap (2*(H.m.fs.length:Int))=2*(H.m.fs.length:Int):=bJ _ (by omega);have hw1:IntKind.i64.wrap (2*(H.m.fs.length:Int)+1)=2*(H.m.fs.length:Int)+1:=bJ _ (by omega);go_upto_region 2 with (fail);have hN:Hid (eX ⟨H.ma,e⟩=reclaimN (2*H.m.fs.length+1) ⟨H.ma,e⟩):=Lib.hid rfl;have h':=Lib.hid h;generalize hNN:2*H.m.fs.length+1=N at hN;have hNi:(2*(H.m.fs.length:Int)+1)=(N:Int):=by omega
 have hNl:N≤2001:=by omega
 clear h hc hw0 hw1;rw[hNi];clear hNi hNN
 go_loopw [15] (fun s15 wr => ∃(j:Nat) (Hj:MH) (ej:Int),j≤N∧s15 = .int .i64 j∧kR wr B b Hj ej∧KS w b H wr Hj∧Hid (reclaimN N ⟨H.ma,e⟩=reclaimN (N-j) ⟨Hj.ma,ej⟩)∧Hid (Hj.sp.length=H.sp.length∧Hj.ca.length≤H.ca.length∧Hj.m.fs.length=H.m.fs.length)) (fun s15 _=>N-(intOf s15).toNat)
 case atStart=>exact⟨0,H,e,aS _,rfl,h'.out,.refl _ _ _,Lib.hid rfl,Lib.hid ⟨rfl,ay _,rfl⟩⟩
 case round=>
  clear h';obtain⟨j,Hj,ej,hj,rfl,hj3,sj3,qj,hl⟩:=hrel
  by_cases hjl:j<N
  ·have hji:(j:Int)<(N:Int):=by omega
   go_wp2_with (refine ax _ _ rfl b 0 rfl rfl _ hj3.rdM _ underlying28 rfl mem_size ?_)
   refine (Po Hj.m _ _ _ hj3.ma.rd.fr).mono ?_;rintro r w1 ⟨vb,rfl,ho,hb1⟩;obtain⟨a1,c1,rfl,_⟩:=Cx ho;have h1:=hj3.below hb1;have s1:=sj3.below hb1;have hBj:=Lib.hid hj3.bs;have hwr:=Lib.hid sj3.size;clear hj3 sj3 hb1
   go_wp2_with (refine aI rfl _ _ _ rfl #[.slice a1 (fG Hj.m).fs.length c1,.int .i64 (fG Hj.m).hand] rfl rfl rfl mem_size (jc _ _ _ _) ?_)
   intro w2 hb2 hx2;have h2:=h1.below hb2;have s2:=s1.below hb2;have ho2:=ho.below hb2;clear h1 s1 ho hb2
   go_wp2_with fail
   refine (tY _ ej (bK Hj.m) _ _ _ h2).mono ?_;rintro r w3 ⟨rfl,h3,hg3⟩;have s3:=s2.putB hg3 rfl rfl rfl;have ho3:=ak ho2 h2.blk (by decide) hg3;have hx3:=bu hx2 h2.blk (by decide) hg3;clear h2 s2 ho2 hx2 hg3;have hstep:Hid (reclaimN N ⟨H.ma,e⟩=reclaimN (N-(j+1)+1) ⟨Hj.ma,ej⟩):=Lib.hid (by rw[qj.out,show N-(j+1)+1=N-j by omega]);clear qj
   by_cases h0:bK Hj.m=0
   ·rw[h0,rz] at h3
    by_cases hk:iH Hj.m<0
    ·have hq:Hid (eX ⟨H.ma,e⟩=(⟨Hj.ma,ej⟩,false)):=Lib.hid (by rw[hN.out,hstep.out];unfold reclaimN;rw[if_pos (.inr hk)];show (Kp.mk Hj.ma (jd ej (bK Hj.m)),false)=_;rw[h0,rz]);rw[h0];go_wp2;go_ret;rw[hq.out];exact⟨rfl,_,_,h3,s3,rfl⟩
    obtain⟨hlt,hki⟩:=Rn h0 hk;have hnl:=Lib.hid (NH h0);have hki':=Lib.hid hki;generalize hF:(iH Hj.m).toNat=F at hlt hki hki';have hFn:¬(F:Int)<0:=by omega
    rw[hki] at hk;rw[h0,hki];clear hki hk;have hx:=hx3.cell
    go_wp2_with (first | (refine ax _ _ rfl _ 0 rfl rfl [.slice a1 (fG Hj.m).fs.length c1,.int .i64 (fG Hj.m).hand] (bF hx3 0 2) _ underlying28 rfl mem_size ?_) | (refine fP rfl _ _ _ rfl b 0 _ rfl rfl _ _ h3.blk (by show 0+2≤12;decide) mem_size (jc _ _ _ _) ?_))
    intro w4 hb4 hg4;have h4:=h3.setM (ho3.mono hBj.out) hb4 hg4;have s4:KS w b H w4 { Hj with af:=a1,cf:=c1,m:=fG Hj.m }:=s3.putF hg4 (ho3.mono hwr.out) (ay _) rfl rfl;clear h3 s3 ho3 hx3 hx hb4 hg4;have hq4:Hid (reclaimN N ⟨H.ma,e⟩=if lK (MH.ma { Hj with af:=a1,cf:=c1,m:=fG Hj.m }) F=true then (fw ⟨MH.ma { Hj with af:=a1,cf:=c1,m:=fG Hj.m },ej⟩ F,true) else reclaimN (N-(j+1)) (fw ⟨MH.ma { Hj with af:=a1,cf:=c1,m:=fG Hj.m },ej⟩ F)):=Lib.hid (by
     rw[hstep.out]
     conv=>lhs;unfold reclaimN
     have hc:¬(bK (Kp.m ⟨Hj.ma,ej⟩).m≠0∨iH (Kp.m ⟨Hj.ma,ej⟩).m<0):=by
      rintro (e|e)
      ·exact e h0
      have:iH Hj.m<0:=e;rw[hki'.out] at this;omega
     rw[if_neg hc];rw[show (iH (Kp.m ⟨Hj.ma,ej⟩).m).toNat=F from hF];rfl)
    obtain⟨hl1,hl2,hl3⟩:=hl.out;have hl4:(MH.sp { Hj with af:=a1,cf:=c1,m:=fG Hj.m }).length=H.sp.length∧(MH.ca { Hj with af:=a1,cf:=c1,m:=fG Hj.m }).length≤H.ca.length∧(MH.m { Hj with af:=a1,cf:=c1,m:=fG Hj.m }).fs.length=H.m.fs.length:=⟨hl1,hl2,hnl.out.trans hl3⟩;have hlt4:=hlt;rw[hl3] at hlt4;have hl4':=Lib.hid hl4;clear hl4 hl1 hl2 hl3;generalize ({ Hj with af:=a1,cf:=c1,m:=fG Hj.m }:MH)=H4 at h4 s4 hq4 hl4'
    go_wp2_with fail
    refine (Lx H4 ej F B b _ h4 (by rw[hl4'.out.2.2];exact hlt4) (by rw[hl4'.out.1];exact hz) (aX hl4'.out.2.1 hz2)).mono ?_;rintro r w5 ⟨rfl,H5,e5,h5,s5,q5⟩;have s05:=s4.trans s5;have hle:=BD.evict ⟨H4.ma,ej⟩ F;obtain⟨m1,m2,m3⟩:=WC q5;have hl5:H5.sp.length=H.sp.length∧H5.ca.length≤H.ca.length∧H5.m.fs.length=H.m.fs.length:=by have a1:=hle.sp;have a2:=hle.ca;have a3:=hle.fs;rw[show (Kp.m ⟨H4.ma,ej⟩).sp.length=H4.sp.length from CR H4] at a1;exact⟨by rw[m1,a1];exact hl4'.out.1,by rw[m2];exact aX a2 hl4'.out.2.1,by rw[m3];exact a3.trans hl4'.out.2.2⟩
    have q5':=Lib.hid q5;have hl5':=Lib.hid hl5;clear h4 s4 s5 q5 hle m1 m2 m3 hl5;cases hb:lK H4.ma F with
    | true=>
     have hq:Hid (eX ⟨H.ma,e⟩=(⟨H5.ma,e5⟩,true)):=Lib.hid (by rw[hN.out,hq4.out,hb,if_pos rfl,q5'.out]);go_wp2;go_ret;rw[hq.out];exact⟨rfl,_,_,h5,s05,rfl⟩
    | false=>
     have hq:Hid (reclaimN N ⟨H.ma,e⟩=reclaimN (N-(j+1)) ⟨H5.ma,e5⟩):=Lib.hid (by rw[hq4.out,hb,if_neg (by decide),q5'.out]);clear hq4 hstep;go_wp2;go_roundw
     case rel=>exact⟨j+1,H5,e5,by omega,by go_num,h5,s05,hq,hl5'⟩
     case measure=>simp[intOf];omega
   have hq:Hid (eX ⟨H.ma,e⟩=(⟨Hj.ma,jd ej (bK Hj.m)⟩,false)):=Lib.hid (by rw[hN.out,hstep.out];unfold reclaimN;rw[if_pos (.inl h0)];rfl);go_wp2;go_ret;rw[hq.out];exact⟨rfl,_,_,h3,s3,rfl⟩
  have hji:¬(j:Int)<(N:Int):=by omega
  have hq:Hid (eX ⟨H.ma,e⟩=(⟨Hj.ma,ej⟩,false)):=Lib.hid (by rw[hN.out,qj.out,show N-j=0 by omega];rfl);clear qj;go_wp2;go_ret;rw[hq.out];exact⟨rfl,_,_,hj3,sj3,rfl⟩
theorem Pf : (Tryz.prog.info? 86).map (·.size)=some 9:=by kernel_rfl
def Ev (f:Int→Bool) (q:Int × Page):Bool:=!(f q.1)
theorem Lv (q:Int × Page) (g gm n:Nat) (f:Int→Bool) (w:World) (hg:aC w g #[.map (some gm)] 203) (hM:nK w gm n f) (hq : -9223372036854775808≤q.1∧q.1≤9223372036854775807) :
  Calls Tryz.prog 135 #[.agg (Ep q),.pointer (some ⟨g,0,none⟩)] w fun r w'=>r = .returned (.bool (Ev f q))∧Below w.heap.size w w':=by
 go_enter func135,ntmps135;go_upto_region 1 with (fail);refine gI (fun W=>Code.wp _ _ _ _ W) fun W0 hb0 hx0 hs0 => ?_;clear hs0;have hgx:=(hg.ext hb0).cell 0;have hcx:=hx0.cell;have hlk:=(hM.below hb0).look q.1 hq;have q0:(Ep q)[0]?=some (.int .i64 q.1):=rfl;go_wp2;go_ret;exact⟨rfl,hb0⟩
theorem RH {l:List (Int × Page)} (h:dN w a (l.flatMap yz)) (k:Nat) (hk:k<l.length):∃b off,a=some ⟨b,off,none⟩∧dN w (some ⟨b,off+k*9,none⟩) (yz l[k]):=jH uQ (by decide) h k hk
theorem LK (l:List (Int × Page)) (a:Option Addr) (c:Nat) (w:World) (hrd:dN w a (l.flatMap yz)) (hl:l.length≤9223372036854775807) (g gm n:Nat) (f:Int→Bool) (hg:aC w g #[.map (some gm)] 203) (hM:nK w gm n f) (hq:∀q∈l,-9223372036854775808≤q.1∧q.1≤9223372036854775807) :
  Calls Tryz.prog 148 #[.slice a l.length c,.func (.func 135) #[] #[.pointer (some ⟨g,0,none⟩)]] w fun e w'=>e = .returned (.int .i64 (idx (Ev f) l))∧Below w.heap.size w w':=by
 go_enter func148,ntmps148;go_wp2
 go_loopw [8] (fun i wr => ∃k:Nat,k≤l.length∧i = .int .i64 k∧Below w.heap.size w wr∧∀i (h:i<l.length),i<k→(Ev f) l[i]=false) (fun i _=>l.length-(intOf i).toNat)
 case atStart=>exact⟨0,aS _,rfl,Below.refl _ _,fun i _ h=>absurd h (dO _)⟩
 case round=>
  obtain⟨k,hk,rfl,hbr,hp0⟩:=hrel;have hp:=Lib.hid hp0;clear hp0
  by_cases hlt:k<l.length
  ·obtain⟨b,off,rfl,hel⟩:=RH (hrd.below hbr) k hlt
   go_wp2_with (refine ax _ _ rfl b (off+k*9) rfl rfl _ hel _ underlying86 rfl Pf ?_)
   refine (Lv l[k] g gm n f _ (hg.ext hbr) (hM.below hbr) (hq _ (dP hlt))).mono ?_;rintro e w2 ⟨rfl,hb2⟩;have hbel2:=ae hbr hb2;clear hb2;cases hpk:(Ev f) l[k]
   ·have hpk':=Lib.hid hpk;clear hpk;go_wp2;go_roundw
    case rel=>exact⟨k+1,by omega,by go_num,hbel2,lH hp.out hlt hpk'.out⟩
    case measure=>simp[intOf];omega
   have hfin:=Lib.hid (tH (Ev f) l k hlt hp.out hpk);clear hpk;go_wp2;go_ret;exact⟨aR hfin.out.symm,hbel2⟩
  have hfin:=Lib.hid (kT (Ev f) l fun i h=>hp.out i h (by omega));go_wp2;go_ret;exact⟨aR hfin.out.symm,hbr⟩
theorem KZ (l:List (Int × Page)) (a:Option Addr) (c:Nat) (w:World) (hrd:dN w a (l.flatMap yz)) (hl:l.length≤9223372036854775807) (g gm n:Nat) (f:Int→Bool) (hg:aC w g #[.map (some gm)] 203) (hM:nK w gm n f) (hq:∀q∈l,-9223372036854775808≤q.1∧q.1≤9223372036854775807) :
  Calls Tryz.prog 134 #[.slice a l.length c,.func (.func 135) #[] #[.pointer (some ⟨g,0,none⟩)]] w fun e w'=>e = .returned (.bool (l.any (Ev f)))∧Below w.heap.size w w':=by
 go_enter func134,ntmps134
 go_wp2_with fail
 refine (LK l a c _ hrd hl g gm n f hg hM hq).mono ?_;rintro e w2 ⟨rfl,hb2⟩;go_wp2;go_ret;exact⟨bH (nC _ _),hb2⟩
theorem Rp (hk:k<m.dk.blocks.length) (h:(decide ((k:Int)∈kE m.st)||decide (m.dk.blocks.getD k zPg=zPg))=false):trimB m=false:=by
 unfold trimB;rw[GA];refine .inl (List.all_eq_false.2 ⟨k,dE.2 hk,?_⟩);rw[h];decide
theorem Qh (h:∀j:Nat,j<m.dk.blocks.length→(decide ((j:Int)∈kE m.st)||decide (m.dk.blocks.getD j zPg=zPg))=true):trimB m = !(m.dk.queue.any (Ev (rH (kE m.st)))):=by
 unfold trimB;rw[dL.2 (fun j hj=>h j (dE.1 hj)),lm,List.any_eq_not_all_not,Bool.not_not];congr 1;funext q;simp[Ev,rH]
theorem Js (H:MH) (b:Nat) (w:World) (hb:aC w b (dD H) 41) (h:BF w H) (h0:aM (bZ H.fi H.ct)=0) (hd:bn H.dk=0) :
  Calls Tryz.prog 110 #[.pointer (some ⟨b,0,none⟩)] w fun r w'=>r = .returned (.bool (trimB H.ma))∧Below w.heap.size w w':=by
 have hmm:=@run_makeMap Tryz.prog;have hf5:H.fi.length≤5:=by simpa[bZ] using (jv h0).1
 have hfl:Hid (∀p∈H.fi,p.l.length≤12∧∀x∈p.l,-1≤x∧x<80):=Lib.hid (fun p hp=>by obtain⟨h1,h2,h3,h4⟩:=zk h0 p.fi (ib.2 ⟨p,hp,rfl⟩);have h5:=xn (n:=p.fi.n) h2;have h6:=(jv h0).2.2;refine⟨by have h7:(p.l.length:Int)=dZ p.fi.n:=h3;omega,fun x hx=>⟨(h4 x hx).1,by have:=(h4 x hx).2;omega⟩⟩);obtain⟨hd80,hq400⟩:=wW hd;have hqb:Hid (∀q∈H.dk.queue,-9223372036854775808≤q.1∧q.1≤9223372036854775807):=Lib.hid (fun q hq=>by obtain⟨i,hi,rfl⟩:=jE.1 hq;have:=wS hd i hi;omega);have H0:=Lib.hid h0;have HD:=Lib.hid hd;clear h0 hd;have hbk:=Lib.hid (zG H.fi H.ct);go_enter func110,ntmps110;go_upto_region 2 with (fail);refine gI (fun W=>Code.wp _ _ _ _ W) fun w2 hb2 hx2 hs2 => ?_;have hbel2:Below w.heap.size w w2:=ae ((Below.refl _ _).alloc (ay _) _) hb2;have hM2:nK w2 w.heap.size 0 (rH (((H.fi.take 0).map PF.fi).flatMap Fi.b)):=(nK.made w).below hb2;have hx2' : aC w2 (w.heap.size+1) #[.map (some w.heap.size)] 203:=by have e:(w.alloc (Obj.map #[] 0)).heap.size=w.heap.size+1:=zO _;rw[e] at hx2;exact hx2
 obtain⟨gm,hGM⟩:∃g,g=w.heap.size:=⟨_,rfl⟩;have hge:Hid (w.heap.size≤gm):=Lib.hid (by omega);rw[←hGM] at hM2 hx2' ⊢;rw[←hGM] at hge;have hgs:w.heap.size≤gm:=by omega
 clear hb2 hx2 hs2 hmm hGM hge;have hbk2:=hb.ext hbel2;have hcb:=hbk2.cell;unfold dD at hcb;have H5:(H.fi.length:Int)≤5:=by omega
 go_upto_region 3 with (fail);clear hcb hbk2
 go_loopw [17] (fun i wr => ∃(q n:Nat),q≤H.fi.length∧i = .int .i64 q∧n≤12*q∧Below w.heap.size w wr∧aC wr (gm+1) #[.map (some gm)] 203∧nK wr gm n (rH (((H.fi.take q).map PF.fi).flatMap Fi.b))) (fun i _=>H.fi.length-(intOf i).toNat)
 case atStart=>exact⟨0,0,aS _,rfl,ay _,hbel2,hx2',hM2⟩
 case round=>
  clear hbel2 hx2' hM2;obtain⟨q,n,hq,rfl,hn,hbr,hx,hM⟩:=hrel
  by_cases hlt:q<H.fi.length
  ·obtain⟨bf,of,hai,hrd⟩:=jH jq (by decide) (h.below hbr).st.rd q hlt;obtain⟨p,hp⟩:∃p,H.fi[q]?=some p:=⟨_,aG hlt⟩;rw[show H.fi[q]=p from (bW.1 hp).2] at hrd;have hgood:=(h.below hbr).st.good p (bQ hp);obtain⟨hp12,hpx⟩:=hfl.out p (bQ hp);have htk:=Lib.hid (take_at hp);have hqi:(q:Int)<(H.fi.length:Int):=by omega
   generalize hseen:((H.fi.take q).map PF.fi).flatMap Fi.b=seen at hM;have hseen':=Lib.hid hseen;have hpx':=Lib.hid hpx;clear hseen hp hpx;rw[hai]
   go_wp2_with (first | (refine ax _ _ rfl bf (of+q*2) rfl rfl _ hrd _ underlying67 rfl file_size ?_) | (refine aI rfl _ _ _ rfl (pE p) rfl rfl rfl file_size (oU p) ?_))
   intro w3 hb3 fx3;have hb13:=ae hbr hb3;have hx3:=hx.ext hb3;have hM3:=hM.below hb3;have hg3:=hgood.below hb3;have hwr:=Lib.hid hbr.size;have hxl:=Lib.hid hx.lt;clear hbr hx hM hb3 hrd hgood;have hcf:=fx3.cell;unfold pE at hcf;have hM0:nK w3 gm n (rH (seen++p.l.take 0)):=by simpa using hM3
   have hle:=hg3.le;have hmx:=hg3.mx;have hrp:=hg3.rd;unfold maxLen at hmx;clear hM3 hg3;go_upto_region 6 with (fail);clear hcf fx3
   go_loopw [24] (fun i wr => ∃(j m:Nat),j≤p.l.length∧i = .int .i64 j∧m≤n+j∧Below w.heap.size w wr∧aC wr (gm+1) #[.map (some gm)] 203∧nK wr gm m (rH (seen++p.l.take j))∧dN wr p.a (p.l.map fM)) (fun i _=>p.l.length-(intOf i).toNat)
   case atStart=>exact⟨0,n,aS _,rfl,ay _,hb13,hx3,hM0,hrp⟩
   case round=>
    clear hb13 hx3 hM0 hrp;obtain⟨j,m,hj,rfl,hm,hbr,hx,hM,hrp⟩:=hrel
    by_cases hjl:j<p.l.length
    ·obtain⟨x,hX⟩:∃x,p.l[j]?=some x:=⟨p.l[j],aG hjl⟩;obtain⟨b2,off2,hpa,hc⟩:=jl hrp j hjl;rw[show p.l[j]=x from (bW.1 hX).2] at hc;have htk2:=Lib.hid (take_at hX);have hxb:=hpx'.out x (bQ hX);have hrp':=Lib.hid hrp;have hpa':=Lib.hid hpa;have hjl' : (j:Int)<(p.l.length:Int):=by omega
     have hcx:=hx.cell;rw[hpa];clear hX hrp hpa;generalize hs2:seen++p.l.take j=seen2 at hM;have hs2' : Hid (seen++p.l.take (j+1)=seen2++[x]):=Lib.hid (by rw[htk2.out,←jC,hs2]);clear hs2
     go_wp2_with (refine vQ hM (by omega) rfl _ _ _ rfl rfl x rfl rfl (by omega) ?_)
     intro w6 hM6 hgr6;rw[Ea,←hs2'.out] at hM6;have hb6:=hbr.grown hgr6 hbr.size (fun k hk=>by cases hk;omega);have hx6:=hx.grown hgr6 (fun e=>by have:=aJ e;omega);have hrp6:=hM.rdv hrp'.out hgr6;clear hbr hx hM hgr6 hcx hc hrp';go_wp2;go_roundw
     case rel=>exact⟨j+1,m+1,by omega,by go_num,by omega,hb6,hx6,hM6,by rw[←hpa'.out];exact hrp6⟩
     case measure=>simp[intOf];omega
    have hjl' : ¬(j:Int)<(p.l.length:Int):=by omega
    rw[iF (by omega)] at hM;have hM' : nK wr gm m (rH (((H.fi.take (q+1)).map PF.fi).flatMap Fi.b)):=by rw[htk.out,jf,eT,hseen'.out];simpa[PF.fi] using hM
    clear hM hrp;go_wp2;go_roundw
    case rel=>exact⟨q+1,m,by omega,by go_num,by omega,hbr,hx,hM'⟩
    case measure=>simp[intOf];omega
  have hqi:¬(q:Int)<(H.fi.length:Int):=by omega
  rw[iF (by omega)] at hM;have hM' : nK wr gm n (rH (kE H.ma.st)):=hM;clear hM;have hbk:=hb.ext hbr;have hcb:=hbk.cell;unfold dD at hcb;go_upto_region 12 with (fail);clear hcb hbk
  go_loopw [38] (fun i wr => ∃(k:Nat),k≤H.dk.blocks.length∧i = .int .i64 k∧Below w.heap.size w wr∧aC wr (gm+1) #[.map (some gm)] 203∧nK wr gm n (rH (kE H.ma.st))∧Hid (∀j:Nat,j<k→(decide ((j:Int)∈kE H.ma.st)||decide (H.dk.blocks.getD j zPg=zPg))=true)) (fun i _=>H.dk.blocks.length-(intOf i).toNat)
  case atStart=>exact⟨0,aS _,rfl,hbr,hx,hM',Lib.hid fun j hj=>absurd hj (dO _)⟩
  case round=>
   clear hbr hx hM';obtain⟨k,hk,rfl,hbr,hx,hM,hall⟩:=hrel
   by_cases hkl:k<H.dk.blocks.length
   ·obtain⟨bd,od,hda,hrd⟩:=jH jJ (by decide) (h.below hbr).dk.rb k hkl;have hki:(k:Int)<(H.dk.blocks.length:Int):=by omega
    have hgd:Hid (H.dk.blocks.getD k zPg=H.dk.blocks[k]):=Lib.hid (by rw[aW,aG hkl];rfl);generalize hP:H.dk.blocks[k]=P at hrd hgd;clear hP;rw[hda]
    go_wp2_with (first | (refine ax _ _ rfl bd (od+k*8) rfl rfl _ hrd _ underlying79 rfl psize ?_) | (refine aI rfl _ _ _ rfl (iq P) rfl rfl rfl psize (ja _) ?_))
    intro w3 hb3 px3;have hb13:=ae hbr hb3;have hx3:=hx.ext hb3;have hM3:=hM.below hb3;clear hbr hx hM hb3 hrd;have hcx:=hx3.cell;have hlook:=hM3.look k (by omega);have hcp:=px3.cell;rw[Nw] at hcp;cases hu:rH (kE H.ma.st) (k:Int) with
    | true=>
     rw[hu] at hlook;have hall2:Hid (∀j:Nat,j<k+1→(decide ((j:Int)∈kE H.ma.st)||decide (H.dk.blocks.getD j zPg=zPg))=true):=Lib.hid fun j hj=>by
      by_cases e:j=k
      ·subst e;rw[show decide ((j:Int)∈kE H.ma.st)=true from hu];rfl
      ·exact hall.out j (by omega)
     clear hu hall;go_wp2;go_roundw
     case rel=>exact⟨k+1,by omega,by go_num,hb13,hx3,hM3,hall2⟩
     case measure=>simp[intOf];omega
    | false=>
     rw[hu] at hlook;have hE:∀W,(Op.equalIn 10000 79 (.agg #[.int .u8 P[0].toNat,.int .u8 P[1].toNat,.int .u8 P[2].toNat,.int .u8 P[3].toNat,.int .u8 P[4].toNat,.int .u8 P[5].toNat,.int .u8 P[6].toNat,.int .u8 P[7].toNat]) (.agg #[.int .u8 0,.int .u8 0,.int .u8 0,.int .u8 0,.int .u8 0,.int .u8 0,.int .u8 0,.int .u8 0])).run Tryz.prog W = .ok (P==zPg) W:=fun W=>VC P zPg W
     by_cases hp0:P=zPg
     ·have hall2:Hid (∀j:Nat,j<k+1→(decide ((j:Int)∈kE H.ma.st)||decide (H.dk.blocks.getD j zPg=zPg))=true):=Lib.hid fun j hj=>by
       by_cases e:j=k
       ·subst e;rw[hgd.out,decide_eq_true hp0,Ir]
       ·exact hall.out j (by omega)
      have hpb:(P==zPg)=true:=by rw[hp0];exact beq_self_eq_true _
      rw[hpb] at hE;clear hu hall hpb hp0 hgd;go_wp2;go_roundw
      case rel=>exact⟨k+1,by omega,by go_num,hb13,hx3,hM3,hall2⟩
      case measure=>simp[intOf];omega
     have hpb:(P==zPg)=false:=by rw[beq_eq_false_iff_ne];exact hp0
     have hq:Hid (trimB H.ma=false):=Lib.hid (Rp (k:=k) hkl (by show (decide ((k:Int)∈kE H.ma.st)||decide (H.dk.blocks.getD k zPg=zPg))=false;rw[hgd.out,decide_eq_false hp0,show decide ((k:Int)∈kE H.ma.st)=false from hu];rfl));rw[hpb] at hE;clear hu hall hpb hp0 hgd;go_wp2;go_ret;rw[hq.out];exact⟨rfl,hb13⟩
   have hki:¬(k:Int)<(H.dk.blocks.length:Int):=by omega
   have hq:Hid (trimB H.ma = !(H.dk.queue.any (Ev (rH (kE H.ma.st))))):=Lib.hid (Qh fun j hj=>hall.out j (by have:j<H.dk.blocks.length:=hj;omega));have hbk:=hb.ext hbr;have hcb:=hbk.cell;unfold dD at hcb;have hd:=(h.below hbr).dk;clear hall
   go_wp2_with fail
   refine (KZ H.dk.queue H.dq H.cdq _ hd.rq (by omega) (gm+1) gm n (rH (kE H.ma.st)) hx hM hqb.out).mono ?_;rintro r w4 ⟨rfl,hb4⟩;go_wp2;go_ret;rw[hq.out];exact⟨rfl,ae hbr hb4⟩
def Ii (m:Ma):List Int:=[bK m.m,dm m.sl,bn m.sw,bn m.dk,aM m.st]
theorem PH (hk:k<5) (h:∀j,j<k→(Ii m).getD j 0=0) (hne:(Ii m).getD k 0≠0):gU m=(Ii m).getD k 0:=by
 unfold gU;have e0:0<k→bK m.m=0:=fun h'=>h 0 h';have e1:1<k→dm m.sl=0:=fun h'=>h 1 h';have e2:2<k→bn m.sw=0:=fun h'=>h 2 h';have e3:3<k→bn m.dk=0:=fun h'=>h 3 h'
 match k,hk with
 | 0,_=>rw[if_pos (show bK m.m≠0 from hne)];rfl
 | 1,_=>rw[if_neg (by rw[e0 (by omega)];simp),if_pos (show dm m.sl≠0 from hne)];rfl
 | 2,_=>rw[if_neg (by rw[e0 (by omega)];simp),if_neg (by rw[e1 (by omega)];simp),if_pos (show bn m.sw≠0 from hne)];rfl
 | 3,_=>rw[if_neg (by rw[e0 (by omega)];simp),if_neg (by rw[e1 (by omega)];simp),if_neg (by rw[e2 (by omega)];simp),if_pos (show bn m.dk≠0 from hne)];rfl
 | 4,_=>rw[if_neg (by rw[e0 (by omega)];simp),if_neg (by rw[e1 (by omega)];simp),if_neg (by rw[e2 (by omega)];simp),if_neg (by rw[e3 (by omega)];simp),if_pos (show aM m.st≠0 from hne)];rfl
 | n+5,h'=>omega
def VO (B:Nat) (H:MH):lX:=⟨fun v w => ∃g,v = .slice (some ⟨g,0,none⟩) 5 5∧aC w g #[.int .i64 (bK H.m),.int .i64 (dm H.sl),.int .i64 (bn H.sw),.int .i64 (bn H.dk),.int .i64 (aM (bZ H.fi H.ct))] 43,fun _ _ _ hb ⟨g,h1,h2⟩=>⟨g,h1,h2.ext hb⟩⟩
theorem Od (H:MH) (b:Nat) (w:World) (hbk:aC w b (dD H) 41) (h:BF w H) :
  Calls Tryz.prog 66 #[.pointer (some ⟨b,0,none⟩)] w fun r w'=>r = .returned (.int .i64 (gU H.ma))∧Below w.heap.size w w':=by
 go_enter func66,ntmps66;go_upto_region 1 with (fail);refine aK 28 [_,_,_,_,.v (.int .i64 (bK H.m)),_,_,_,_,.v (.int .i64 (dm H.sl)),_,_,_,_,.v (.int .i64 (bn H.sw)),_,_,_,_,.v (.int .i64 (bn H.dk)),_,_,_,_,.v (.int .i64 (aM (bZ H.fi H.ct))),.r 25 ((VO w.heap.size H)),.v (.int .i64 5),_] (Gk rfl (Gk rfl (Gf b 0 rfl rfl (Gr (.agg #[.slice H.af H.m.fs.length H.cf,.int .i64 H.m.hand]) (fun ρ y W hb hKn=>(bB rfl (aD rfl hKn) (bF (hbk.ext hb) 0 2) underlying28 rfl (by kernel_rfl))) rfl rfl (ag ?_ (Gk rfl (Gk rfl (Gf b 2 rfl rfl (Gl hbk rfl rfl rfl rfl rfl (ag ?_ (Gk rfl (Gk rfl (Gf b 3 rfl rfl (Gr (.agg #[.slice H.wb H.sw.blocks.length H.cwb,.slice H.wq H.sw.queue.length H.cwq]) (fun ρ y W hb hKn=>(bB rfl (aD rfl hKn) (bF (hbk.ext hb) 3 2) underlying34 rfl (by kernel_rfl))) rfl rfl (ag ?_ (Gk rfl (Gk rfl (Gf b 5 rfl rfl (Gr (.agg #[.slice H.db H.dk.blocks.length H.cdb,.slice H.dq H.dk.queue.length H.cdq]) (fun ρ y W hb hKn=>(bB rfl (aD rfl hKn) (bF (hbk.ext hb) 5 2) underlying34 rfl (by kernel_rfl))) rfl rfl (ag ?_ (Gk rfl (Gk rfl (Gf b 7 rfl rfl (Gr (.agg #[.slice H.ai H.fi.length H.ci,.int .i64 H.ct]) (fun ρ y W hb hKn=>(bB rfl (aD rfl hKn) (bF (hbk.ext hb) 7 2) underlying37 rfl (by kernel_rfl))) rfl rfl (ag ?_ (ag ?_ (ag ?_ (Gr (.int .i64 0) (fun ρ y W hb hKn=>(run_move (.inl rfl) (aD rfl hKn))) rfl rfl (aB))))))))))))))))))))))))))))) (fun _=>rfl) rfl ?_
 ·intro ρ y W hw hn hb hd;have E12:=hw 12 3 rfl;have h3:y 3=_:=hd 3 rfl;have EF:∀f,ρ (.func f) = .func (.func f) #[] #[]:=fun f=>hn (.func f) trivial;refine aO _ _ (ah rfl) (aQ rfl (EF _) func107 (by kernel_rfl) (by kernel_rfl) (by simp only[bP,bM,bN,E12,h3,EF];rfl)) ?_;refine (yf H.m _ _ W (h.below hb).fr).mono ?_;rintro r w1 ⟨rfl,hb1⟩;exact⟨_,rfl,hb1,rfl⟩
 ·intro ρ y W hw hn hb hd;have E17:=hw 17 8 rfl;have h8:y 8=_:=hd 8 rfl;have EF:∀f,ρ (.func f) = .func (.func f) #[] #[]:=fun f=>hn (.func f) trivial;refine aO _ _ (ah rfl) (aQ rfl (EF _) func108 (by kernel_rfl) (by kernel_rfl) (by simp only[bP,bM,bN,E17,h8,EF];rfl)) ?_;refine (vX H.sl _ _ W (h.below hb).sl.rd (by have:=h.sl.le;have:=h.sl.mx;unfold maxLen at this;omega)).mono ?_;rintro r w1 ⟨rfl,rfl⟩;exact⟨_,rfl,Below.refl _ _,rfl⟩
 ·intro ρ y W hw hn hb hd;have E22:=hw 22 13 rfl;have h13:y 13=_:=hd 13 rfl;have EF:∀f,ρ (.func f) = .func (.func f) #[] #[]:=fun f=>hn (.func f) trivial;refine aO _ _ (ah rfl) (aQ rfl (EF _) func93 (by kernel_rfl) (by kernel_rfl) (by simp only[bP,bM,bN,E22,h13,EF];rfl)) ?_;refine (uY H.sw _ _ _ _ W (h.below hb).sw).mono ?_;rintro r w1 ⟨rfl,hb1⟩;exact⟨_,rfl,hb1,rfl⟩
 ·intro ρ y W hw hn hb hd;have E27:=hw 27 18 rfl;have h18:y 18=_:=hd 18 rfl;have EF:∀f,ρ (.func f) = .func (.func f) #[] #[]:=fun f=>hn (.func f) trivial;refine aO _ _ (ah rfl) (aQ rfl (EF _) func93 (by kernel_rfl) (by kernel_rfl) (by simp only[bP,bM,bN,E27,h18,EF];rfl)) ?_;refine (uY H.dk _ _ _ _ W (h.below hb).dk).mono ?_;rintro r w1 ⟨rfl,hb1⟩;exact⟨_,rfl,hb1,rfl⟩
 ·intro ρ y W hw hn hb hd;have E32:=hw 32 23 rfl;have h23:y 23=_:=hd 23 rfl;have EF:∀f,ρ (.func f) = .func (.func f) #[] #[]:=fun f=>hn (.func f) trivial;refine aO _ _ (ah rfl) (aQ rfl (EF _) func109 (by kernel_rfl) (by kernel_rfl) (by simp only[bP,bM,bN,E32,h23,EF];rfl)) ?_;refine (CX H.fi H.ct _ _ W (h.below hb).st h.c64).mono ?_;rintro r w1 ⟨rfl,hb1⟩;exact⟨_,rfl,hb1,rfl⟩
 ·intro ρ y W hw hn hb hd;have E13:=hw 13 4 rfl;have h4:y 4=_:=hd 4 rfl;have E18:=hw 18 9 rfl;have h9:y 9=_:=hd 9 rfl;have E23:=hw 23 14 rfl;have h14:y 14=_:=hd 14 rfl;have E28:=hw 28 19 rfl;have h19:y 19=_:=hd 19 rfl;have E33:=hw 33 24 rfl;have h24:y 24=_:=hd 24 rfl;refine jL (.slice (some ⟨W.heap.size,0,none⟩) 5 5) (ah rfl) (by simp[execOp,go_sem,E13.trans h4,E18.trans h9,E23.trans h14,E28.trans h19,E33.trans h24]) ((Below.refl _ _).alloc (ay _) (.cells #[.int .i64 (bK H.m),.int .i64 (dm H.sl),.int .i64 (bn H.sw),.int .i64 (bn H.dk),.int .i64 (aM (bZ H.fi H.ct))] 43)) ?_;exact⟨_,rfl,aC.new _ _ _⟩
 ·intro ρ y W hw hn hb hd;have E34:=hw 34 25 rfl;have h25:=hd 25 rfl;obtain⟨ge,hge,_⟩:=h25;refine aj (.int .i64 5) (ah rfl) (by simp[execOp,go_sem,E34,hge]) rfl
 intro y W1 hbW1 hRW1;have hy25:((VO w.heap.size H)).r (y 25) W1:=hRW1 25 (by decide);clear hRW1;obtain⟨ge,hge,hxe⟩:=hy25;have hbelW:Below w.heap.size w W1:=hbW1;rw[hge];clear hge hbW1;go_upto_region 2 with (fail)
 go_loopw [36] (fun i wr => ∃(k:Nat),k≤5∧i = .int .i64 k∧Below w.heap.size w wr∧aC wr ge #[.int .i64 (bK H.m),.int .i64 (dm H.sl),.int .i64 (bn H.sw),.int .i64 (bn H.dk),.int .i64 (aM (bZ H.fi H.ct))] 43∧Hid (∀j,j<k→(Ii H.ma).getD j 0=0)) (fun i _=>5-(intOf i).toNat)
 case atStart=>exact⟨0,aS _,rfl,hbelW,hxe,Lib.hid fun j hj=>absurd hj (dO _)⟩
 case round=>
  clear hbelW hxe;obtain⟨k,hk,rfl,hbr,hx,hz⟩:=hrel
  by_cases hkl:k<5
  ·have hki:(k:Int)<5:=by omega
   have hck:wr.cell? ⟨ge,k,none⟩=some (.int .i64 ((Ii H.ma).getD k 0)):=by
    rw[hx.cell]
    match k,hkl with
    | 0,_=>rfl
    | 1,_=>rfl
    | 2,_=>rfl
    | 3,_=>rfl
    | 4,_=>rfl
    | n+5,h'=>omega
   by_cases h0:(Ii H.ma).getD k 0=0
   ·have hz2:Hid (∀j,j<k+1→(Ii H.ma).getD j 0=0):=Lib.hid fun j hj=>by
     by_cases e:j=k
     ·rw[e];exact h0
     ·exact hz.out j (by omega)
    rw[h0] at hck;clear h0 hz;go_wp2;go_roundw
    case rel=>exact⟨k+1,by omega,by go_num,hbr,hx,hz2⟩
    case measure=>simp[intOf];omega
   have hq:Hid (gU H.ma=(Ii H.ma).getD k 0):=Lib.hid (PH hkl hz.out h0);generalize (Ii H.ma).getD k 0=E at *
   clear hz;go_wp2;go_ret;rw[hq.out];exact⟨rfl,hbr⟩
  have hki:¬(k:Int)<5:=by omega
  have hz0:=hz.out 0 (by omega);have hz1:=hz.out 1 (by omega);have hz2:=hz.out 2 (by omega);have hz3:=hz.out 3 (by omega);have hz4:=hz.out 4 (by omega);have e0:=Lib.hid (show bK H.m=0 from hz0);have e1:=Lib.hid (show dm H.sl=0 from hz1);have e2:=Lib.hid (show bn H.sw=0 from hz2);have e3:=Lib.hid (show bn H.dk=0 from hz3);have e4:=Lib.hid (show aM (bZ H.fi H.ct)=0 from hz4);clear hz0 hz1 hz2 hz3 hz4 hz hx;have hbkr:=hbk.ext hbr;have hr:=h.below hbr;have hP:Hid (gU H.ma=if H.sw.blocks.length≠H.sl.length∨(H.dk.blocks.length:Int)≠H.ct∨trimB H.ma=false then 7 else if 4<H.sp.length then 4 else firstE (H.ma.sp.map jF)):=Lib.hid (by unfold gU;rw[if_neg (by rw[show bK H.ma.m=0 from e0.out];simp),if_neg (by rw[show dm H.ma.sl=0 from e1.out];simp),if_neg (by rw[show bn H.ma.sw=0 from e2.out];simp),if_neg (by rw[show bn H.ma.dk=0 from e3.out];simp),if_neg (by rw[show aM H.ma.st=0 from e4.out];simp),CR];rfl);go_upto_region 7 with (fail);have hcb:=hbkr.cell;unfold dD at hcb
  by_cases c1:H.sw.blocks.length=H.sl.length
  ·by_cases c2:(H.dk.blocks.length:Int)=H.ct
   ·have c1i:(H.sw.blocks.length:Int)=(H.sl.length:Int):=by omega
    have hp2:Hid (gU H.ma=if trimB H.ma=false then 7 else if 4<H.sp.length then 4 else firstE (H.ma.sp.map jF)):=Lib.hid (by
     rw[hP.out]
     by_cases ct:trimB H.ma=false
     ·rw[if_pos (.inr (.inr ct)),if_pos ct]
     ·rw[if_neg (by rintro (h | h | h);exact h c1;exact h c2;exact ct h),if_neg ct])
    refine aK 31 [_,_,_,_,_,_,_,_,_,_,_,_,_,_,_,_,_,_,_,_,_,_,_,_,_,_,_,_,.v (.bool (trimB H.ma)),_,.v (.bool (!trimB H.ma))] (Gk rfl (Gk rfl (Gf b 3 rfl rfl (Gf b 3 rfl rfl (Gl hbkr rfl rfl rfl rfl rfl (Gn rfl rfl rfl rfl (Gk rfl (Gk rfl (Gf b 2 rfl rfl (Gl hbkr rfl rfl rfl rfl rfl (Gn rfl rfl rfl rfl (Gb (.bool false) (by simp[go_sem,c1]) rfl rfl rfl rfl rfl (Gk rfl (Gk rfl (Gk rfl (Gf b 5 rfl rfl (Gf b 5 rfl rfl (Gl hbkr rfl rfl rfl rfl rfl (Gn rfl rfl rfl rfl (Gk rfl (Gk rfl (Gf b 7 rfl rfl (Gf b 8 rfl rfl (Gl hbkr rfl rfl rfl rfl rfl (Gb (.bool false) (by simp[go_sem,c2]) rfl rfl rfl rfl rfl (Gk rfl (Gk rfl (Gk rfl (ag ?_ (Gr (.bool (!trimB H.ma)) (fun ρ y W hb hKn=>CG rfl (aD rfl hKn)) rfl rfl (Gk rfl (aB)))))))))))))))))))))))))))))))) (fun _=>rfl) rfl ?_
    ·intro ρ y W hw hn hb hd;have E71:=hw 71 27 rfl;have h27:y 27=_:=hd 27 rfl;have EF:∀f,ρ (.func f) = .func (.func f) #[] #[]:=fun f=>hn (.func f) trivial;refine aO _ _ (aY 26 70 false false rfl rfl ((hw 70 26 rfl).trans (hd 26 rfl))) (aQ rfl (EF _) func110 (by kernel_rfl) (by kernel_rfl) (by simp only[bP,bM,bN,E71,h27,EF];rfl)) ?_;refine (Js H b W (hbkr.ext hb) (hr.below hb) e4.out e3.out).mono ?_;rintro r w1 ⟨rfl,hb1⟩;exact⟨_,rfl,hb1,rfl⟩
    intro y W2 hbW2 _;have hbr2:=ae hbr hbW2;clear hbW2;cases ht:trimB H.ma with
    | false=>
     have hp7:Hid (gU H.ma=7):=Lib.hid (by rw[hp2.out,if_pos ht]);clear c1 c2 c1i;go_wp2;go_ret;rw[hp7.out];exact⟨rfl,hbr2⟩
    | true=>
     have hp3:Hid (gU H.ma=if 4<H.sp.length then 4 else firstE (H.ma.sp.map jF)):=Lib.hid (by rw[hp2.out,if_neg (by rw[ht];decide)]);clear c1 c2 c1i hcb ht;have hr2:=h.below hbr2;have hcb:=(hbk.ext hbr2).cell;unfold dD at hcb;clear hr hbkr hP hp2 hbr
     by_cases c4:4<H.sp.length
     ·have hp4:Hid (gU H.ma=4):=Lib.hid (by rw[hp3.out,if_pos c4]);have c4i:(4:Int)<(H.sp.length:Int):=by omega
      clear c4;go_wp2;go_ret;rw[hp4.out];exact⟨rfl,hbr2⟩
     have hp4:Hid (gU H.ma=firstE (H.ma.sp.map jF)):=Lib.hid (by rw[hp3.out,if_neg c4]);have c4i:¬(4:Int)<(H.sp.length:Int):=by omega
     have hlen:Hid ((H.ma.sp.map jF).length=H.sp.length):=Lib.hid (by rw[fe,CR]);clear c4 hp3;go_upto_region 12 with (fail);clear hcb hr2
     go_loopw [86] (fun i wr => ∃(k:Nat),k≤H.sp.length∧i = .int .i64 k∧Below w.heap.size w wr∧Hid (∀j (hj:j<(H.ma.sp.map jF).length),j<k→(H.ma.sp.map jF)[j]=0)) (fun i _=>H.sp.length-(intOf i).toNat)
     case atStart=>exact⟨0,aS _,rfl,hbr2,Lib.hid fun j _ hj=>absurd hj (dO _)⟩
     case round=>
      clear hbr2;obtain⟨k,hk,rfl,hbr,hz⟩:=hrel
      by_cases hkl:k<H.sp.length
      ·obtain⟨bs,os,P,hap,hP,hrd⟩:=xH (h.below hbr).sp.rd k hkl;have hgood:=wJ (h.below hbr) hP;have hki:(k:Int)<(H.sp.length:Int):=by omega
       have hkm:k<(H.ma.sp.map jF).length:=by rw[hlen.out];exact hkl
       have hE:Hid ((H.ma.sp.map jF)[k]=jF P.sp):=Lib.hid (by
        rw[uZ];congr 1;have:H.ma.sp[k]?=some P.sp:=by show (H.sp.map PS.sp)[k]?=_;rw[jM,hP];rfl
        exact (bW.1 this).2)
       have hfin:Hid (jF P.sp≠0→gU H.ma=jF P.sp):=Lib.hid fun hne=>by rw[hp4.out,xk k hkm hz.out (by rw[hE.out];exact hne),hE.out]
       have hnx:Hid (jF P.sp=0→∀j (hj:j<(H.ma.sp.map jF).length),j<k+1→(H.ma.sp.map jF)[j]=0):=Lib.hid fun h0 j hj hjk=>by
        by_cases e:j=k
        ·subst e;rw[hE.out];exact h0
        ·exact hz.out j hj (by omega)
       have hsp:Hid (jF P.sp=if (bG P.ar).1≠0 then (bG P.ar).1 else if cK P.tb≠0 then cK P.tb else if P.lv=false∧0<P.ar.length+(aN P.tb).length then 7 else 0):=Lib.hid rfl;rw[hap];clear hz hP hE hkm;have hps1:(vM P).all (·.oneCell')=true:=by rw[←ky,dL];exact hgood.one
       go_wp2_with (first | (refine ax _ _ rfl bs (os+k*10) rfl rfl _ hrd _ underlying55 rfl space_size ?_) | (refine aI rfl _ _ _ rfl (vM P) rfl rfl rfl space_size hps1 ?_))
       intro w3 hb3 fx3;have hbr3:=ae hbr hb3;have hg3:=hgood.below hb3;have hgl:=fx3.lt;generalize wr.heap.size=gs at fx3 hgl ⊢;clear hbr hb3 hrd hgood hps1;have hcf:=fx3.cell;unfold vM at hcf;have hA:=hg3.ars
       go_wp2_with fail
       refine (Lf P.ar P.aa P.ac _ hA.rd (by have:=hA.le;have:=hA.mx;unfold maxLen at this;omega)).mono ?_;rintro r w3' ⟨rfl,hb3'⟩;have fx3':=fx3.ext hb3';have hbr3':=ae hbr3 hb3';have hg3':=hg3.below hb3';clear hcf fx3 hbr3 hg3 hb3' hA
       go_wp2_with (refine aI rfl _ _ _ rfl (JZ (bG P.ar)) rfl rfl rfl fau_size (by simp[JZ,Value.oneCell']) ?_)
       intro w4 hb4 ux;have fx:=fx3'.ext hb4;have hbr4:=ae hbr3' hb4;have hg4:=hg3'.below hb4;clear fx3' hbr3' hg3' hb4;have hcu:=ux.cell;unfold JZ at hcu
       by_cases c5:(bG P.ar).1=0
       ·rw[if_neg (by rw[c5];simp)] at hsp;rw[c5] at hcu;have hal:=(AZ c5).1;have hpl:(aN P.tb).length≤64:=qY P.tb 64;have hws:IntKind.i64.wrap ((P.ar.length:Int)+((aN P.tb).length:Int))=(P.ar.length:Int)+((aN P.tb).length:Int):=bJ _ (by omega);go_upto_region 17 with (fail);clear hcu ux c5
        go_wp2_with (refine ax _ _ rfl gs 2 rfl rfl _ (bF fx 2 8) _ underlying53 tab_agg tab_size ?_)
        refine (Dj P.tb (ng P.ts) _ hg4.tb).mono ?_;rintro r w6 ⟨rfl,hb6⟩;replace fx:=fx.ext hb6;replace hbr4:=ae hbr4 hb6;replace hg4:=hg4.below hb6;clear hb6
        by_cases c6:cK P.tb=0
        ·rw[if_neg (by rw[c6];simp)] at hsp;rw[c6];go_upto_region 20 with (fail);cases hlv:P.lv with
         | true=>
          have hs0:Hid (jF P.sp=0):=Lib.hid (by rw[hsp.out,if_neg (by rw[hlv];simp)]);refine aK 14 [_,_,_,_,_,_,_,_,_,_,_,_,_,.v (.bool false)] (Gf gs 0 rfl rfl (Gl fx (V:=.bool true) (by simp[vM,hlv]) rfl rfl rfl rfl (Gk rfl (Gk rfl (Gk rfl (Gk rfl (Gk rfl (Gk rfl (Gk rfl (Gk rfl (Gk rfl (Gk rfl (Gk rfl (Gk rfl (aB))))))))))))))) (fun _=>rfl) rfl ?_;intro y W5 hbW5 _;have hbr5:=ae hbr4 hbW5;clear hbW5;have hall:=Lib.hid (hnx.out hs0.out);clear hws fx hg4;go_wp2;go_roundw
          case rel=>exact⟨k+1,by omega,by go_num,hbr5,hall⟩
          case measure=>simp[intOf];omega
         | false=>
          refine aK 14 [_,_,_,_,_,_,_,_,_,.r 9 ((oq w6.heap.size 3 1 (aN P.tb).length ((aN P.tb).map fM))),.v (.int .i64 (aN P.tb).length),_,_,.v (.bool (decide (0<(P.ar.length:Int)+((aN P.tb).length:Int))))] (Gf gs 0 rfl rfl (Gl fx (V:=.bool false) (by simp[vM,hlv]) rfl rfl rfl rfl (Gk rfl (Gk rfl (Gf gs 1 rfl rfl (Gl fx rfl rfl rfl rfl rfl (Gn rfl rfl rfl rfl (Gf gs 2 rfl rfl (Gr (.agg (ng P.ts)) (fun ρ y W hb hKn=>(bB rfl (aD rfl hKn) (bF (fx.ext hb) 2 8) underlying53 tab_agg tab_size)) rfl rfl (ag ?_ (ag ?_ (Gb (.int .i64 ((P.ar.length:Int)+((aN P.tb).length:Int))) (by simp[go_sem,hws]) rfl rfl rfl rfl rfl (Gb (.bool (decide (0<(P.ar.length:Int)+((aN P.tb).length:Int)))) (by simp[go_sem]) rfl rfl rfl rfl rfl (Gk rfl (aB))))))))))))))) (fun _=>rfl) rfl ?_
          ·intro ρ y W hw hn hb hd;have E112:=hw 112 8 rfl;have h8:y 8=_:=hd 8 rfl;have EF:∀f,ρ (.func f) = .func (.func f) #[] #[]:=fun f=>hn (.func f) trivial;refine aO _ _ (aY 3 107 true true rfl rfl ((hw 107 3 rfl).trans (hd 3 rfl))) (aQ rfl (EF _) func42 (by kernel_rfl) (by kernel_rfl) (by simp only[bP,bM,bN,E112,h8,EF];rfl)) ?_;refine (xU P.tb (ng P.ts) W (hg4.below hb).tb).mono ?_;rintro r w1 ⟨v,rfl,ho,hb1⟩;exact⟨_,rfl,hb1,ho.mono hb.size⟩
          ·intro ρ y W hw hn hb hd;have E113:=hw 113 9 rfl;have h9:=hd 9 rfl;obtain⟨a9,c9,e9,_⟩:=Own.rd h9;refine aj (.int .i64 (aN P.tb).length) (aY 3 107 true true rfl rfl ((hw 107 3 rfl).trans (hd 3 rfl))) (Ka rfl (E113.trans e9) rfl) rfl
          intro y W5 hbW5 hRW5;have hy9:((oq w6.heap.size 3 1 (aN P.tb).length ((aN P.tb).map fM))).r (y 9) W5:=hRW5 9 (by decide);clear hRW5;have hbr5:=ae hbr4 hbW5;clear hbW5
          by_cases c7:0<P.ar.length+(aN P.tb).length
          ·have hq:Hid (gU H.ma=7):=Lib.hid (by rw[hfin.out (by rw[hsp.out,if_pos ⟨hlv,c7⟩];decide),hsp.out,if_pos ⟨hlv,c7⟩]);have hd:decide (0<(P.ar.length:Int)+((aN P.tb).length:Int))=true:=decide_eq_true (by omega);rw[hd];clear hws fx hg4 hd c7;go_wp2;go_ret;rw[hq.out];exact⟨rfl,hbr5⟩
          have hs0:Hid (jF P.sp=0):=Lib.hid (by rw[hsp.out,if_neg (fun h'=>c7 h'.2)]);have hall:=Lib.hid (hnx.out hs0.out);have hd:decide (0<(P.ar.length:Int)+((aN P.tb).length:Int))=false:=decide_eq_false (by omega);rw[hd];clear hws fx hg4 hd c7;go_wp2;go_roundw
          case rel=>exact⟨k+1,by omega,by go_num,hbr5,hall⟩
          case measure=>simp[intOf];omega
        rw[if_pos c6] at hsp;have hq:Hid (gU H.ma=cK P.tb):=Lib.hid (by rw[hfin.out (by rw[hsp.out];exact c6),hsp.out]);generalize cK P.tb=E at *
        go_wp2;go_ret;rw[hq.out];exact⟨rfl,hbr4⟩
       rw[if_pos c5] at hsp;have hq:Hid (gU H.ma=(bG P.ar).1):=Lib.hid (by rw[hfin.out (by rw[hsp.out];exact c5),hsp.out]);generalize (bG P.ar).1=E at *
       go_wp2;go_ret;rw[hq.out];exact⟨rfl,hbr4⟩
      have hki:¬(k:Int)<(H.sp.length:Int):=by omega
      have hq:Hid (gU H.ma=0):=Lib.hid (by rw[hp4.out,rO fun i hi=>hz.out i hi (by rw[hlen.out] at hi;omega)]);clear hz;go_wp2;go_ret;rw[hq.out];exact⟨rfl,hbr⟩
   have hp7:Hid (gU H.ma=7):=Lib.hid (by rw[hP.out,if_pos (.inr (.inl c2))]);refine aK 31 [_,_,_,_,_,_,_,_,_,_,_,_,_,_,_,_,_,_,_,_,_,_,_,_,_,_,_,_,_,_,.v (.bool true)] (Gk rfl (Gk rfl (Gf b 3 rfl rfl (Gf b 3 rfl rfl (Gl hbkr rfl rfl rfl rfl rfl (Gn rfl rfl rfl rfl (Gk rfl (Gk rfl (Gf b 2 rfl rfl (Gl hbkr rfl rfl rfl rfl rfl (Gn rfl rfl rfl rfl (Gb (.bool false) (by simp[go_sem,c1]) rfl rfl rfl rfl rfl (Gk rfl (Gk rfl (Gk rfl (Gf b 5 rfl rfl (Gf b 5 rfl rfl (Gl hbkr rfl rfl rfl rfl rfl (Gn rfl rfl rfl rfl (Gk rfl (Gk rfl (Gf b 7 rfl rfl (Gf b 8 rfl rfl (Gl hbkr rfl rfl rfl rfl rfl (Gb (.bool true) (by simp[go_sem,c2]) rfl rfl rfl rfl rfl (Gk rfl (Gk rfl (Gk rfl (Gk rfl (Gk rfl (Gk rfl (aB)))))))))))))))))))))))))))))))) (fun _=>rfl) rfl ?_;intro y W2 hbW2 _;have hbr2:=ae hbr hbW2;clear hbW2;clear c1 c2;go_wp2;go_ret;rw[hp7.out];exact⟨rfl,hbr2⟩
  have hp7:Hid (gU H.ma=7):=Lib.hid (by rw[hP.out,if_pos (.inl c1)]);have c1i:¬((H.sw.blocks.length:Int)=(H.sl.length:Int)):=by omega
  have c2:=c1;refine aK 31 [_,_,_,_,_,_,_,_,_,_,_,_,_,_,_,_,_,_,_,_,_,_,_,_,_,_,_,_,_,_,.v (.bool true)] (Gk rfl (Gk rfl (Gf b 3 rfl rfl (Gf b 3 rfl rfl (Gl hbkr rfl rfl rfl rfl rfl (Gn rfl rfl rfl rfl (Gk rfl (Gk rfl (Gf b 2 rfl rfl (Gl hbkr rfl rfl rfl rfl rfl (Gn rfl rfl rfl rfl (Gb (.bool true) (by simp[go_sem,c1i]) rfl rfl rfl rfl rfl (Gk rfl (Gk rfl (Gk rfl (Gk rfl (Gk rfl (Gk rfl (Gk rfl (Gk rfl (Gk rfl (Gk rfl (Gk rfl (Gk rfl (Gk rfl (Gk rfl (Gk rfl (Gk rfl (Gk rfl (Gk rfl (Gk rfl (aB)))))))))))))))))))))))))))))))) (fun _=>rfl) rfl ?_;intro y W2 hbW2 _;have hbr2:=ae hbr hbW2;clear hbW2;clear c1 c1i c2;go_wp2;go_ret;rw[hp7.out];exact⟨rfl,hbr2⟩
theorem uA {p:Option Cc} {c:Cc} (h:c.f<0∨(m.st.fs.length:Int)≤c.f∨c.i<0∨((aU m.st c.f).b.length:Int)≤c.i∨c.k<0∨(m.m.fs.length:Int)≤c.k):sQ m p c=3:=by
 unfold sQ;rw[if_pos h]
theorem Lg (H:MH) (b:Nat) (w:World) (hbk:aC w b (dD H) 41) (h:BF w H) :
  Calls Tryz.prog 67 #[.pointer (some ⟨b,0,none⟩)] w fun r w'=>r = .returned (.int .i64 (cachedE H.ma))∧Below w.heap.size w w':=by
 have hmm:=h.ca.le;have hmx:=h.ca.mx;unfold maxLen at hmx;go_enter func67,ntmps67;have hcb:=hbk.cell;unfold dD at hcb;obtain⟨L,hL⟩:∃L,L=(List.range H.ca.length).map fun k=>sQ H.ma (xK H.ca k) (H.ca.getD k zCc):=⟨_,rfl⟩;have hLl:Hid (L.length=H.ca.length):=Lib.hid (by rw[hL];simp);have hLE:Hid (cachedE H.ma=firstE L):=Lib.hid (by rw[hL];rfl);have hLg:Hid (∀k (hk:k<L.length),L[k]=sQ H.ma (xK H.ca k) (H.ca.getD k zCc)):=Lib.hid fun k hk=>by simp[hL]
 clear hL;go_upto_region 2 with (fail);clear hcb
 go_loopw [11] (fun i wr => ∃(k:Nat),k≤H.ca.length∧i = .int .i64 k∧Below w.heap.size w wr∧Hid (∀j (hj:j<L.length),j<k→L[j]=0)) (fun i _=>H.ca.length-(intOf i).toNat)
 case atStart=>exact⟨0,aS _,rfl,Below.refl _ _,Lib.hid fun j _ hj=>absurd hj (dO _)⟩
 case round=>
  obtain⟨k,hk,rfl,hbr,hz⟩:=hrel
  by_cases hkl:k<H.ca.length
  ·obtain⟨bc,oc,hac,hrd⟩:=jH oV (by decide) (h.below hbr).ca.rd k hkl;have hki:(k:Int)<(H.ca.length:Int):=by omega
   have hkL:k<L.length:=by rw[hLl.out];exact hkl
   have hE:Hid (L[k]=sQ H.ma (xK H.ca k) H.ca[k]):=Lib.hid (by rw[hLg.out k hkL,aW,aG hkl];rfl);have hfin:Hid (L[k]≠0→cachedE H.ma=L[k]):=Lib.hid fun hne=>by rw[hLE.out,xk k hkL hz.out hne]
   have hnx:Hid (L[k]=0→∀j (hj:j<L.length),j<k+1→L[j]=0):=Lib.hid fun h0 j hj hjk=>by
    by_cases e:j=k
    ·subst e;exact h0
    ·exact hz.out j hj (by omega)
   generalize hLk:L[k]=Lk at *
   have hpv:Hid (xK H.ca k=if k=0 then none else H.ca[k-1]?):=Lib.hid rfl;generalize hc:H.ca[k]=c at *
   rw[hac];clear hz hkL hLk hc
   go_wp2_with (first | (refine ax _ _ rfl bc (oc+k*3) rfl rfl _ hrd _ underlying106 rfl cached_size ?_) | (refine aI rfl _ _ _ rfl (Ab c) rfl rfl rfl cached_size (vB c) ?_))
   intro w3 hb3 cx;have hbr3:=ae hbr hb3;have hbk3:=hbk.ext hbr3;have hr3:=h.below hbr3;generalize wr.heap.size=gc at cx ⊢;clear hb3 hrd hbr;go_upto_region 4 with (fail);obtain⟨bf,of,F,P,hai,hFl,hcF,hcs⟩:∃(bf of F:Nat) (P:PF),(0≤c.f→c.f<H.fi.length→H.ai=some ⟨bf,of,none⟩)∧(0≤c.f→c.f<H.fi.length→F<H.fi.length)∧(0≤c.f→c.f<H.fi.length→c.f=(F:Int)∧aU H.ma.st c.f=P.fi)∧(0≤c.f→c.f<H.fi.length→∀W,Below w3.heap.size w3 W→W.cell? ⟨bf,of+F*2+1,none⟩=some (.slice P.a P.l.length P.c)):=by
    by_cases hc0:0≤c.f∧c.f<H.fi.length
    ·have hFl:c.f.toNat<H.fi.length:=by omega
     obtain⟨bf,of,P,hai,hP,hcn,hcs⟩:=Dk hr3.st.rd c.f.toNat hFl;refine⟨bf,of,c.f.toNat,P,fun _ _=>hai,fun _ _=>hFl,fun _ _=>⟨by omega,?_⟩,fun _ _ W hb => ?_⟩
     ·have:(H.fi.map PF.fi)[c.f.toNat]?=some P.fi:=by rw[jM,hP];rfl
      have h2:=oJ (s:=H.ma.st) (F:=c.f.toNat) this;rw[←h2];congr 1;omega
     obtain⟨bf',of',P',hai',hP',hcn',hcs'⟩:=Dk (hr3.below hb).st.rd c.f.toNat hFl;rw[hP] at hP';cases hP';rw[hai] at hai';cases hai';exact hcs'
    ·exact⟨0,0,0,⟨0,none,[],0⟩,fun h1 h2=>absurd ⟨h1,h2⟩ hc0,fun h1 h2=>absurd ⟨h1,h2⟩ hc0,fun h1 h2=>absurd ⟨h1,h2⟩ hc0,fun h1 h2=>absurd ⟨h1,h2⟩ hc0⟩
   by_cases c1:c.f<0
   ·have hbad:Hid (c.f<0∨(H.ma.st.fs.length:Int)≤c.f∨c.i<0∨((aU H.ma.st c.f).b.length:Int)≤c.i∨c.k<0∨(H.ma.m.fs.length:Int)≤c.k):=Lib.hid (.inl c1);refine aK 51 [_,_,_,_,_,_,_,_,_,_,_,_,_,_,_,_,_,_,_,_,_,_,_,_,_,_,_,_,_,_,_,_,_,_,_,_,_,_,_,_,_,_,_,_,_,_,_,_,_,_,.v (.bool true)] (Gf gc 0 rfl rfl (Gl cx rfl rfl rfl rfl rfl (Gb (.bool true) (by simp[go_sem,c1]) rfl rfl rfl rfl rfl (Gk rfl (Gk rfl (Gk rfl (Gk rfl (Gk rfl (Gk rfl (Gk rfl (Gk rfl (Gk rfl (Gk rfl (Gk rfl (Gk rfl (Gk rfl (Gk rfl (Gk rfl (Gk rfl (Gk rfl (Gk rfl (Gk rfl (Gk rfl (Gk rfl (Gk rfl (Gk rfl (Gk rfl (Gk rfl (Gk rfl (Gk rfl (Gk rfl (Gk rfl (Gk rfl (Gk rfl (Gk rfl (Gk rfl (Gk rfl (Gk rfl (Gk rfl (Gk rfl (Gk rfl (Gk rfl (Gk rfl (Gk rfl (Gk rfl (Gk rfl (Gk rfl (Gk rfl (Gk rfl (Gk rfl (Gk rfl (aB)))))))))))))))))))))))))))))))))))))))))))))))))))) (fun _=>rfl) rfl ?_;intro y W4 hbW4 _;have hbr4:=ae hbr3 hbW4;replace cx:=cx.ext hbW4;clear hbW4;have hL3:Hid (Lk=3):=Lib.hid (by rw[hE.out];exact uA hbad.out);have hq:Hid (cachedE H.ma=3):=Lib.hid (by rw[hfin.out (by rw[hL3.out];decide),hL3.out]);clear hai hFl hcF hcs;go_wp2;go_ret;rw[hq.out];exact⟨rfl,hbr4⟩
   have hfl:Hid (H.ma.st.fs.length=H.fi.length):=Lib.hid (fe _)
   by_cases c2:(H.fi.length:Int)≤c.f
   ·have hbad:Hid (c.f<0∨(H.ma.st.fs.length:Int)≤c.f∨c.i<0∨((aU H.ma.st c.f).b.length:Int)≤c.i∨c.k<0∨(H.ma.m.fs.length:Int)≤c.k):=Lib.hid (.inr (.inl (by rw[hfl.out];exact c2)));refine aK 51 [_,_,_,_,_,_,_,_,_,_,_,_,_,_,_,_,_,_,_,_,_,_,_,_,_,_,_,_,_,_,_,_,_,_,_,_,_,_,_,_,_,_,_,_,_,_,_,_,_,_,.v (.bool true)] (Gf gc 0 rfl rfl (Gl cx rfl rfl rfl rfl rfl (Gb (.bool false) (by simp[go_sem,c1]) rfl rfl rfl rfl rfl (Gk rfl (Gf gc 0 rfl rfl (Gl cx rfl rfl rfl rfl rfl (Gk rfl (Gk rfl (Gf b 7 rfl rfl (Gf b 7 rfl rfl (Gl hbk3 rfl rfl rfl rfl rfl (Gn rfl rfl rfl rfl (Gb (.bool true) (by simp[go_sem,c2]) rfl rfl rfl rfl rfl (Gk rfl (Gk rfl (Gk rfl (Gk rfl (Gk rfl (Gk rfl (Gk rfl (Gk rfl (Gk rfl (Gk rfl (Gk rfl (Gk rfl (Gk rfl (Gk rfl (Gk rfl (Gk rfl (Gk rfl (Gk rfl (Gk rfl (Gk rfl (Gk rfl (Gk rfl (Gk rfl (Gk rfl (Gk rfl (Gk rfl (Gk rfl (Gk rfl (Gk rfl (Gk rfl (Gk rfl (Gk rfl (Gk rfl (Gk rfl (Gk rfl (Gk rfl (Gk rfl (Gk rfl (aB)))))))))))))))))))))))))))))))))))))))))))))))))))) (fun _=>rfl) rfl ?_;intro y W4 hbW4 _;have hbr4:=ae hbr3 hbW4;replace cx:=cx.ext hbW4;clear hbW4;have hL3:Hid (Lk=3):=Lib.hid (by rw[hE.out];exact uA hbad.out);have hq:Hid (cachedE H.ma=3):=Lib.hid (by rw[hfin.out (by rw[hL3.out];decide),hL3.out]);clear hai hFl hcF hcs;go_wp2;go_ret;rw[hq.out];exact⟨rfl,hbr4⟩
   replace hai:=hai (by omega) (by omega);replace hFl:=hFl (by omega) (by omega);obtain⟨hcF,hfA⟩:=hcF (by omega) (by omega);replace hcs:=hcs (by omega) (by omega);have hfA':=Lib.hid hfA;clear hfA
   by_cases c3:c.i<0
   ·have hbad:Hid (c.f<0∨(H.ma.st.fs.length:Int)≤c.f∨c.i<0∨((aU H.ma.st c.f).b.length:Int)≤c.i∨c.k<0∨(H.ma.m.fs.length:Int)≤c.k):=Lib.hid (.inr (.inr (.inl c3)));refine aK 51 [_,_,_,_,_,_,_,_,_,_,_,_,_,_,_,_,_,_,_,_,_,_,_,_,_,_,_,_,_,_,_,_,_,_,_,_,_,_,_,_,_,_,_,_,_,_,_,_,_,_,.v (.bool true)] (Gf gc 0 rfl rfl (Gl cx rfl rfl rfl rfl rfl (Gb (.bool false) (by simp[go_sem,c1]) rfl rfl rfl rfl rfl (Gk rfl (Gf gc 0 rfl rfl (Gl cx rfl rfl rfl rfl rfl (Gk rfl (Gk rfl (Gf b 7 rfl rfl (Gf b 7 rfl rfl (Gl hbk3 rfl rfl rfl rfl rfl (Gn rfl rfl rfl rfl (Gb (.bool false) (by simp[go_sem,c2]) rfl rfl rfl rfl rfl (Gk rfl (Gk rfl (Gf gc 1 rfl rfl (Gl cx rfl rfl rfl rfl rfl (Gb (.bool true) (by simp[go_sem,c3]) rfl rfl rfl rfl rfl (Gk rfl (Gk rfl (Gk rfl (Gk rfl (Gk rfl (Gk rfl (Gk rfl (Gk rfl (Gk rfl (Gk rfl (Gk rfl (Gk rfl (Gk rfl (Gk rfl (Gk rfl (Gk rfl (Gk rfl (Gk rfl (Gk rfl (Gk rfl (Gk rfl (Gk rfl (Gk rfl (Gk rfl (Gk rfl (Gk rfl (Gk rfl (Gk rfl (Gk rfl (Gk rfl (Gk rfl (Gk rfl (Gk rfl (aB)))))))))))))))))))))))))))))))))))))))))))))))))))) (fun _=>rfl) rfl ?_;intro y W4 hbW4 _;have hbr4:=ae hbr3 hbW4;replace cx:=cx.ext hbW4;clear hbW4;have hL3:Hid (Lk=3):=Lib.hid (by rw[hE.out];exact uA hbad.out);have hq:Hid (cachedE H.ma=3):=Lib.hid (by rw[hfin.out (by rw[hL3.out];decide),hL3.out]);clear hai hFl hcF hcs;go_wp2;go_ret;rw[hq.out];exact⟨rfl,hbr4⟩
   by_cases c4:(P.l.length:Int)≤c.i
   ·have hbad:Hid (c.f<0∨(H.ma.st.fs.length:Int)≤c.f∨c.i<0∨((aU H.ma.st c.f).b.length:Int)≤c.i∨c.k<0∨(H.ma.m.fs.length:Int)≤c.k):=Lib.hid (.inr (.inr (.inr (.inl (by rw[hfA'.out];exact c4)))));refine aK 51 [_,_,_,_,_,_,_,_,_,_,_,_,_,_,_,_,_,_,_,_,_,_,_,_,_,_,_,_,_,_,_,_,_,_,_,_,_,_,_,_,_,_,_,_,_,_,_,_,_,_,.v (.bool true)] (Gf gc 0 rfl rfl (Gl cx rfl rfl rfl rfl rfl (Gb (.bool false) (by simp[go_sem,c1]) rfl rfl rfl rfl rfl (Gk rfl (Gf gc 0 rfl rfl (Gl cx rfl rfl rfl rfl rfl (Gk rfl (Gk rfl (Gf b 7 rfl rfl (Gf b 7 rfl rfl (Gl hbk3 rfl rfl rfl rfl rfl (Gn rfl rfl rfl rfl (Gb (.bool false) (by simp[go_sem,c2]) rfl rfl rfl rfl rfl (Gk rfl (Gk rfl (Gf gc 1 rfl rfl (Gl cx rfl rfl rfl rfl rfl (Gb (.bool false) (by simp[go_sem,c3]) rfl rfl rfl rfl rfl (Gk rfl (Gk rfl (Gf gc 1 rfl rfl (Gl cx rfl rfl rfl rfl rfl (Gk rfl (Gk rfl (Gf b 7 rfl rfl (Gf b 7 rfl rfl (Gl hbk3 (V:=.slice (some ⟨bf,of,none⟩) H.fi.length H.ci) (by simp[dD,hai]) rfl rfl rfl rfl (Gf gc 0 rfl rfl (Gl cx (V:=.int .i64 (F:Int)) (by simp[Ab,hcF]) rfl rfl rfl rfl (Gr (.pointer (some ⟨bf,of+F*2,none⟩)) (fun ρ y W hb hKn=>(bv rfl (aD rfl hKn) (aD rfl hKn) hFl underlying35 file_size)) rfl rfl (Gf bf (of+F*2+1) rfl rfl (Gc (.slice P.a P.l.length P.c) (fun W hb=>by simp[hcs _ hb]) rfl rfl rfl rfl (Gn rfl rfl rfl rfl (Gb (.bool true) (by simp[go_sem,c4]) rfl rfl rfl rfl rfl (Gk rfl (Gk rfl (Gk rfl (Gk rfl (Gk rfl (Gk rfl (Gk rfl (Gk rfl (Gk rfl (Gk rfl (Gk rfl (Gk rfl (Gk rfl (Gk rfl (Gk rfl (Gk rfl (Gk rfl (aB)))))))))))))))))))))))))))))))))))))))))))))))))))) (fun _=>rfl) rfl ?_;intro y W4 hbW4 _;have hbr4:=ae hbr3 hbW4;replace cx:=cx.ext hbW4;clear hbW4;have hL3:Hid (Lk=3):=Lib.hid (by rw[hE.out];exact uA hbad.out);have hq:Hid (cachedE H.ma=3):=Lib.hid (by rw[hfin.out (by rw[hL3.out];decide),hL3.out]);clear hai hFl hcF hcs;go_wp2;go_ret;rw[hq.out];exact⟨rfl,hbr4⟩
   by_cases c5:c.k<0
   ·have hbad:Hid (c.f<0∨(H.ma.st.fs.length:Int)≤c.f∨c.i<0∨((aU H.ma.st c.f).b.length:Int)≤c.i∨c.k<0∨(H.ma.m.fs.length:Int)≤c.k):=Lib.hid (.inr (.inr (.inr (.inr (.inl c5)))));refine aK 51 [_,_,_,_,_,_,_,_,_,_,_,_,_,_,_,_,_,_,_,_,_,_,_,_,_,_,_,_,_,_,_,_,_,_,_,_,_,_,_,_,_,_,_,_,_,_,_,_,_,_,.v (.bool true)] (Gf gc 0 rfl rfl (Gl cx rfl rfl rfl rfl rfl (Gb (.bool false) (by simp[go_sem,c1]) rfl rfl rfl rfl rfl (Gk rfl (Gf gc 0 rfl rfl (Gl cx rfl rfl rfl rfl rfl (Gk rfl (Gk rfl (Gf b 7 rfl rfl (Gf b 7 rfl rfl (Gl hbk3 rfl rfl rfl rfl rfl (Gn rfl rfl rfl rfl (Gb (.bool false) (by simp[go_sem,c2]) rfl rfl rfl rfl rfl (Gk rfl (Gk rfl (Gf gc 1 rfl rfl (Gl cx rfl rfl rfl rfl rfl (Gb (.bool false) (by simp[go_sem,c3]) rfl rfl rfl rfl rfl (Gk rfl (Gk rfl (Gf gc 1 rfl rfl (Gl cx rfl rfl rfl rfl rfl (Gk rfl (Gk rfl (Gf b 7 rfl rfl (Gf b 7 rfl rfl (Gl hbk3 (V:=.slice (some ⟨bf,of,none⟩) H.fi.length H.ci) (by simp[dD,hai]) rfl rfl rfl rfl (Gf gc 0 rfl rfl (Gl cx (V:=.int .i64 (F:Int)) (by simp[Ab,hcF]) rfl rfl rfl rfl (Gr (.pointer (some ⟨bf,of+F*2,none⟩)) (fun ρ y W hb hKn=>(bv rfl (aD rfl hKn) (aD rfl hKn) hFl underlying35 file_size)) rfl rfl (Gf bf (of+F*2+1) rfl rfl (Gc (.slice P.a P.l.length P.c) (fun W hb=>by simp[hcs _ hb]) rfl rfl rfl rfl (Gn rfl rfl rfl rfl (Gb (.bool false) (by simp[go_sem,c4]) rfl rfl rfl rfl rfl (Gk rfl (Gk rfl (Gf gc 2 rfl rfl (Gl cx rfl rfl rfl rfl rfl (Gb (.bool true) (by simp[go_sem,c5]) rfl rfl rfl rfl rfl (Gk rfl (Gk rfl (Gk rfl (Gk rfl (Gk rfl (Gk rfl (Gk rfl (Gk rfl (Gk rfl (Gk rfl (Gk rfl (Gk rfl (aB)))))))))))))))))))))))))))))))))))))))))))))))))))) (fun _=>rfl) rfl ?_;intro y W4 hbW4 _;have hbr4:=ae hbr3 hbW4;replace cx:=cx.ext hbW4;clear hbW4;have hL3:Hid (Lk=3):=Lib.hid (by rw[hE.out];exact uA hbad.out);have hq:Hid (cachedE H.ma=3):=Lib.hid (by rw[hfin.out (by rw[hL3.out];decide),hL3.out]);clear hai hFl hcF hcs;go_wp2;go_ret;rw[hq.out];exact⟨rfl,hbr4⟩
   by_cases c6:(H.m.fs.length:Int)≤c.k
   ·have hbad:Hid (c.f<0∨(H.ma.st.fs.length:Int)≤c.f∨c.i<0∨((aU H.ma.st c.f).b.length:Int)≤c.i∨c.k<0∨(H.ma.m.fs.length:Int)≤c.k):=Lib.hid (.inr (.inr (.inr (.inr (.inr c6)))));refine aK 51 [_,_,_,_,_,_,_,_,_,_,_,_,_,_,_,_,_,_,_,_,_,_,_,_,_,_,_,_,_,_,_,_,_,_,_,_,_,_,_,_,_,_,_,_,_,_,_,_,_,_,.v (.bool true)] (Gf gc 0 rfl rfl (Gl cx rfl rfl rfl rfl rfl (Gb (.bool false) (by simp[go_sem,c1]) rfl rfl rfl rfl rfl (Gk rfl (Gf gc 0 rfl rfl (Gl cx rfl rfl rfl rfl rfl (Gk rfl (Gk rfl (Gf b 7 rfl rfl (Gf b 7 rfl rfl (Gl hbk3 rfl rfl rfl rfl rfl (Gn rfl rfl rfl rfl (Gb (.bool false) (by simp[go_sem,c2]) rfl rfl rfl rfl rfl (Gk rfl (Gk rfl (Gf gc 1 rfl rfl (Gl cx rfl rfl rfl rfl rfl (Gb (.bool false) (by simp[go_sem,c3]) rfl rfl rfl rfl rfl (Gk rfl (Gk rfl (Gf gc 1 rfl rfl (Gl cx rfl rfl rfl rfl rfl (Gk rfl (Gk rfl (Gf b 7 rfl rfl (Gf b 7 rfl rfl (Gl hbk3 (V:=.slice (some ⟨bf,of,none⟩) H.fi.length H.ci) (by simp[dD,hai]) rfl rfl rfl rfl (Gf gc 0 rfl rfl (Gl cx (V:=.int .i64 (F:Int)) (by simp[Ab,hcF]) rfl rfl rfl rfl (Gr (.pointer (some ⟨bf,of+F*2,none⟩)) (fun ρ y W hb hKn=>(bv rfl (aD rfl hKn) (aD rfl hKn) hFl underlying35 file_size)) rfl rfl (Gf bf (of+F*2+1) rfl rfl (Gc (.slice P.a P.l.length P.c) (fun W hb=>by simp[hcs _ hb]) rfl rfl rfl rfl (Gn rfl rfl rfl rfl (Gb (.bool false) (by simp[go_sem,c4]) rfl rfl rfl rfl rfl (Gk rfl (Gk rfl (Gf gc 2 rfl rfl (Gl cx rfl rfl rfl rfl rfl (Gb (.bool false) (by simp[go_sem,c5]) rfl rfl rfl rfl rfl (Gk rfl (Gk rfl (Gf gc 2 rfl rfl (Gl cx rfl rfl rfl rfl rfl (Gk rfl (Gk rfl (Gf b 0 rfl rfl (Gf b 0 rfl rfl (Gl hbk3 rfl rfl rfl rfl rfl (Gn rfl rfl rfl rfl (Gb (.bool true) (by simp[go_sem,c6]) rfl rfl rfl rfl rfl (Gk rfl (aB)))))))))))))))))))))))))))))))))))))))))))))))))))) (fun _=>rfl) rfl ?_;intro y W4 hbW4 _;have hbr4:=ae hbr3 hbW4;replace cx:=cx.ext hbW4;clear hbW4;have hL3:Hid (Lk=3):=Lib.hid (by rw[hE.out];exact uA hbad.out);have hq:Hid (cachedE H.ma=3):=Lib.hid (by rw[hfin.out (by rw[hL3.out];decide),hL3.out]);clear hai hFl hcF hcs;go_wp2;go_ret;rw[hq.out];exact⟨rfl,hbr4⟩
   refine aK 51 [_,_,_,_,_,_,_,_,_,_,_,_,_,_,_,_,_,_,_,_,_,_,_,_,_,_,_,_,_,_,_,_,_,_,_,_,_,_,_,_,_,_,_,_,_,_,_,_,_,_,.v (.bool false)] (Gf gc 0 rfl rfl (Gl cx rfl rfl rfl rfl rfl (Gb (.bool false) (by simp[go_sem,c1]) rfl rfl rfl rfl rfl (Gk rfl (Gf gc 0 rfl rfl (Gl cx rfl rfl rfl rfl rfl (Gk rfl (Gk rfl (Gf b 7 rfl rfl (Gf b 7 rfl rfl (Gl hbk3 rfl rfl rfl rfl rfl (Gn rfl rfl rfl rfl (Gb (.bool false) (by simp[go_sem,c2]) rfl rfl rfl rfl rfl (Gk rfl (Gk rfl (Gf gc 1 rfl rfl (Gl cx rfl rfl rfl rfl rfl (Gb (.bool false) (by simp[go_sem,c3]) rfl rfl rfl rfl rfl (Gk rfl (Gk rfl (Gf gc 1 rfl rfl (Gl cx rfl rfl rfl rfl rfl (Gk rfl (Gk rfl (Gf b 7 rfl rfl (Gf b 7 rfl rfl (Gl hbk3 (V:=.slice (some ⟨bf,of,none⟩) H.fi.length H.ci) (by simp[dD,hai]) rfl rfl rfl rfl (Gf gc 0 rfl rfl (Gl cx (V:=.int .i64 (F:Int)) (by simp[Ab,hcF]) rfl rfl rfl rfl (Gr (.pointer (some ⟨bf,of+F*2,none⟩)) (fun ρ y W hb hKn=>(bv rfl (aD rfl hKn) (aD rfl hKn) hFl underlying35 file_size)) rfl rfl (Gf bf (of+F*2+1) rfl rfl (Gc (.slice P.a P.l.length P.c) (fun W hb=>by simp[hcs _ hb]) rfl rfl rfl rfl (Gn rfl rfl rfl rfl (Gb (.bool false) (by simp[go_sem,c4]) rfl rfl rfl rfl rfl (Gk rfl (Gk rfl (Gf gc 2 rfl rfl (Gl cx rfl rfl rfl rfl rfl (Gb (.bool false) (by simp[go_sem,c5]) rfl rfl rfl rfl rfl (Gk rfl (Gk rfl (Gf gc 2 rfl rfl (Gl cx rfl rfl rfl rfl rfl (Gk rfl (Gk rfl (Gf b 0 rfl rfl (Gf b 0 rfl rfl (Gl hbk3 rfl rfl rfl rfl rfl (Gn rfl rfl rfl rfl (Gb (.bool false) (by simp[go_sem,c6]) rfl rfl rfl rfl rfl (Gk rfl (aB)))))))))))))))))))))))))))))))))))))))))))))))))))) (fun _=>rfl) rfl ?_;intro y W4 hbW4 _;have hbr4:=ae hbr3 hbW4;replace cx:=cx.ext hbW4;clear hbW4;obtain⟨K,hcK⟩:∃K:Nat,c.k=K:=⟨c.k.toNat,by omega⟩;have hKl:K<H.m.fs.length:=by omega
   have hbk4:=hbk.ext hbr4;have hr4:=h.below hbr4;obtain⟨bg,og,haf,hfrd⟩:=jH eZ (by decide) hr4.fr.rd K hKl;have hE7:Hid (Lk=if (aT H.ma K).r<1∨(aT H.ma K).f≠c.f∨(aT H.ma K).i≠c.i then 7 else match xK H.ca k with
    | none=>0
    | some q=>if c.f<q.f∨q.f=c.f∧c.i≤q.i then 2 else 0):=Lib.hid (by
    rw[hE.out];unfold sQ;rw[if_neg (by rw[hfl.out,hfA'.out];show ¬(c.f<0∨(H.fi.length:Int)≤c.f∨c.i<0∨(P.l.length:Int)≤c.i∨c.k<0∨(H.m.fs.length:Int)≤c.k);omega),hcK];rfl)
   have hxf:H.m.fs[K]=aT H.ma K:=by have:=xN (m:=H.ma) (f:=K) hKl;have h2:H.m.fs[K]?=some (aT H.ma K):=this;rw[aG hKl] at h2;exact aJ h2
   rw[hxf] at hfrd;generalize aT H.ma K=x at *
   clear hxf hai hFl hcs hfA' hfl hbk3 hr3 c2 c3 c4 c5 c6 c1 hE hcF;go_upto_region 6 with (fail);refine aK 10 [_,_,_,_,_,_,_,_,_,.r 9 ((kv W4.heap.size 81 13))] (Gk rfl (Gk rfl (Gf b 0 rfl rfl (Gf b 0 rfl rfl (Gl hbk4 (V:=.slice (some ⟨bg,og,none⟩) H.m.fs.length H.cf) (by simp[dD,haf]) rfl rfl rfl rfl (Gf gc 2 rfl rfl (Gl cx (V:=.int .i64 (K:Int)) (by simp[Ab,hcK]) rfl rfl rfl rfl (Gr (.pointer (some ⟨bg,og+K*13,none⟩)) (fun ρ y W hb hKn=>(bv rfl (aD rfl hKn) (aD rfl hKn) hKl underlying26 frame_size)) rfl rfl (Gr (.agg (vK x)) (fun ρ y W hb hKn=>(bB rfl (aD rfl hKn) (hfrd.below hb) underlying81 rfl frame_size)) rfl rfl (ag ?_ (aB))))))))))) (fun _=>rfl) rfl ?_
   ·intro ρ y W hw hn hb hd;refine jL (.pointer (some ⟨W.heap.size,0,none⟩)) (ah rfl) (by simp[execOp,go_sem]) ((Below.refl _ _).alloc (ay _) (.cells #[.int .u8 0,.int .u8 0,.int .u8 0,.int .u8 0,.int .u8 0,.int .u8 0,.int .u8 0,.int .u8 0,.int .i64 0,.bool false,.bool false,.int .i64 0,.int .i64 0] 81)) ?_;exact⟨_,_,rfl,hb.size,aC.new _ _ _,rfl⟩
   intro y W5 hbW5 hRW5;have hy9:((kv W4.heap.size 81 13)).r (y 9) W5:=hRW5 9 (by decide);clear hRW5;obtain⟨gx,curx,hgx,hgxs,hbx,hszx⟩:=hy9;rw[hgx]
   go_wp2_with (refine fP rfl _ _ _ rfl gx 0 (vK x) rfl rfl _ _ hbx (by rw[hszx];exact ay _) frame_size (oZ x) ?_)
   intro w6 hb6 hg6;rw[iO _ _ (by rw[hszx];rfl)] at hb6;have hbel6:Below W4.heap.size W4 w6:=hbW5.grown hg6 hbW5.size (fun k hk=>by cases hk;exact hgxs);have hbr6:=ae hbr4 hbel6;have cx6:=cx.ext hbel6;have hbk6:=hbk.ext hbr6;clear hbx hbW5 hg6 cx hbk4 hr4 hfrd hbel6 hgx;have hcx:=hb6.cell;unfold vK at hcx;have hcc:=cx6.cell;unfold Ab at hcc
   by_cases d1:x.r<1
   ·have hL7:Hid (Lk=7):=Lib.hid (by rw[hE7.out,if_pos (.inl d1)]);have hq:Hid (cachedE H.ma=7):=Lib.hid (by rw[hfin.out (by rw[hL7.out];decide),hL7.out]);clear hbk6;go_wp2;go_ret;rw[hq.out];exact⟨rfl,hbr6⟩
   by_cases d2:x.f=c.f
   rotate_left
   ·have hL7:Hid (Lk=7):=Lib.hid (by rw[hE7.out,if_pos (.inr (.inl d2))]);have hq:Hid (cachedE H.ma=7):=Lib.hid (by rw[hfin.out (by rw[hL7.out];decide),hL7.out]);clear hbk6;go_wp2;go_ret;rw[hq.out];exact⟨rfl,hbr6⟩
   by_cases d3:x.i=c.i
   rotate_left
   ·have hL7:Hid (Lk=7):=Lib.hid (by rw[hE7.out,if_pos (.inr (.inr d3))]);have hq:Hid (cachedE H.ma=7):=Lib.hid (by rw[hfin.out (by rw[hL7.out];decide),hL7.out]);clear hbk6;go_wp2;go_ret;rw[hq.out];exact⟨rfl,hbr6⟩
   rw[if_neg (by rintro (h | h | h);exact d1 h;exact h d2;exact h d3)] at hE7;go_upto_region 9 with (fail);clear hcx hcc hb6 d1 d2 d3;obtain⟨k1,q,hk1,hk1l,hq0,hq1,hkq⟩:∃(k1:Nat) (q:Cc),(0<k→IntKind.i64.wrap ((k:Int)-1)=(k1:Int))∧(0<k→k1<H.ca.length)∧(0<k→∀W,Below w6.heap.size w6 W→W.cell? ⟨bc,oc+k1*3,none⟩=some (.int .i64 q.f))∧(0<k→∀W,Below w6.heap.size w6 W→W.cell? ⟨bc,oc+k1*3+1,none⟩=some (.int .i64 q.i))∧(0<k→xK H.ca k=some q):=by
    by_cases h0:0<k
    ·have hkl1:k-1<H.ca.length:=by omega
     have hcell:∀W,Below w6.heap.size w6 W→W.cell? ⟨bc,oc+(k-1)*3,none⟩=some (.int .i64 H.ca[k-1].f)∧W.cell? ⟨bc,oc+(k-1)*3+1,none⟩=some (.int .i64 H.ca[k-1].i):=fun W hb=>by obtain⟨bc',oc',c',hac',hc',e1,e2,_⟩:=Uu (h.below (ae hbr6 hb)).ca.rd (k-1) hkl1;rw[aG hkl1] at hc';cases hc';rw[hac] at hac';cases hac';exact⟨e1,e2⟩
     refine⟨k-1,H.ca[k-1],fun _ => ?_,fun _=>hkl1,fun _ W hb=>(hcell W hb).1,fun _ W hb=>(hcell W hb).2,fun _ => ?_⟩
     ·rw[show (k:Int)-1=((k-1:Nat):Int) by omega];exact bJ _ (by omega)
     ·rw[hpv.out,if_neg (by omega),aG hkl1]
    ·exact⟨0,zCc,fun h'=>absurd h' h0,fun h'=>absurd h' h0,fun h'=>absurd h' h0,fun h'=>absurd h' h0,fun h'=>absurd h' h0⟩
   by_cases e1:k=0
   ·have e1i:¬(0:Int)<(k:Int):=by omega
    have hL0:Hid (Lk=0):=Lib.hid (by rw[hE7.out,hpv.out,if_pos e1]);refine aK 44 [_,_,_,_,_,_,_,_,_,_,_,_,_,_,_,_,_,_,_,_,_,_,_,_,_,_,_,_,_,_,_,_,_,_,_,_,_,_,_,_,_,_,_,.v (.bool false)] (Gk rfl (Gb (.bool false) (by simp[go_sem,e1]) rfl rfl rfl rfl rfl (Gk rfl (Gk rfl (Gk rfl (Gk rfl (Gk rfl (Gk rfl (Gk rfl (Gk rfl (Gk rfl (Gk rfl (Gk rfl (Gk rfl (Gk rfl (Gk rfl (Gk rfl (Gk rfl (Gk rfl (Gk rfl (Gk rfl (Gk rfl (Gk rfl (Gk rfl (Gk rfl (Gk rfl (Gk rfl (Gk rfl (Gk rfl (Gk rfl (Gk rfl (Gk rfl (Gk rfl (Gk rfl (Gk rfl (Gk rfl (Gk rfl (Gk rfl (Gk rfl (Gk rfl (Gk rfl (Gk rfl (Gk rfl (Gk rfl (aB))))))))))))))))))))))))))))))))))))))))))))) (fun _=>rfl) rfl ?_;intro y W7 hbW7 _;have hbr7:=ae hbr6 hbW7;clear hbW7;have hall:=Lib.hid (hnx.out hL0.out);clear hq0 hq1 hk1 hk1l cx6 hbk6;go_wp2;go_roundw
    case rel=>exact⟨k+1,by omega,by go_num,hbr7,hall⟩
    case measure=>simp[intOf];omega
   have e1i:0<k:=by omega
   replace hk1:=hk1 (by omega);replace hk1l:=hk1l (by omega);replace hq0:=hq0 (by omega);replace hq1:=hq1 (by omega);have hpq:=Lib.hid (hkq (by omega));clear hkq
   by_cases e2:c.f<q.f
   ·have hbad:Hid (c.f<q.f∨q.f=c.f∧c.i≤q.i):=Lib.hid (.inl e2);refine aK 44 [_,_,_,_,_,_,_,_,_,_,_,_,_,_,_,_,_,_,_,_,_,_,_,_,_,_,_,_,_,_,_,_,_,_,_,_,_,_,_,_,_,_,_,.v (.bool true)] (Gk rfl (Gb (.bool true) (by simp[go_sem,e1i]) rfl rfl rfl rfl rfl (Gk rfl (Gk rfl (Gk rfl (Gf b 9 rfl rfl (Gl hbk6 (V:=.slice (some ⟨bc,oc,none⟩) H.ca.length H.cc) (by simp[dD,hac]) rfl rfl rfl rfl (Gk rfl (Gb (.int .i64 (k1:Int)) (by simp[go_sem,hk1]) rfl rfl rfl rfl rfl (Gr (.pointer (some ⟨bc,oc+k1*3,none⟩)) (fun ρ y W hb hKn=>(bv rfl (aD rfl hKn) (aD rfl hKn) hk1l underlying38 cached_size)) rfl rfl (Gf bc (oc+k1*3) rfl rfl (Gc (.int .i64 q.f) (fun W hb=>by simp[hq0 _ hb]) rfl rfl rfl rfl (Gf gc 0 rfl rfl (Gl cx6 rfl rfl rfl rfl rfl (Gb (.bool true) (by simp[go_sem,e2]) rfl rfl rfl rfl rfl (Gk rfl (Gk rfl (Gk rfl (Gk rfl (Gk rfl (Gk rfl (Gk rfl (Gk rfl (Gk rfl (Gk rfl (Gk rfl (Gk rfl (Gk rfl (Gk rfl (Gk rfl (Gk rfl (Gk rfl (Gk rfl (Gk rfl (Gk rfl (Gk rfl (Gk rfl (Gk rfl (Gk rfl (Gk rfl (Gk rfl (Gk rfl (Gk rfl (Gk rfl (aB))))))))))))))))))))))))))))))))))))))))))))) (fun _=>rfl) rfl ?_;intro y W7 hbW7 _;have hbr7:=ae hbr6 hbW7;clear hbW7;have hL2:Hid (Lk=2):=Lib.hid (by rw[hE7.out,hpq.out];simp only;rw[if_pos hbad.out]);have hq:Hid (cachedE H.ma=2):=Lib.hid (by rw[hfin.out (by rw[hL2.out];decide),hL2.out]);clear hq0 hq1 hk1 hk1l cx6 hbk6;go_wp2;go_ret;rw[hq.out];exact⟨rfl,hbr7⟩
   by_cases e3:q.f=c.f
   ·by_cases e4:c.i≤q.i
    ·have hbad:Hid (c.f<q.f∨q.f=c.f∧c.i≤q.i):=Lib.hid (.inr ⟨e3,e4⟩);refine aK 44 [_,_,_,_,_,_,_,_,_,_,_,_,_,_,_,_,_,_,_,_,_,_,_,_,_,_,_,_,_,_,_,_,_,_,_,_,_,_,_,_,_,_,_,.v (.bool true)] (Gk rfl (Gb (.bool true) (by simp[go_sem,e1i]) rfl rfl rfl rfl rfl (Gk rfl (Gk rfl (Gk rfl (Gf b 9 rfl rfl (Gl hbk6 (V:=.slice (some ⟨bc,oc,none⟩) H.ca.length H.cc) (by simp[dD,hac]) rfl rfl rfl rfl (Gk rfl (Gb (.int .i64 (k1:Int)) (by simp[go_sem,hk1]) rfl rfl rfl rfl rfl (Gr (.pointer (some ⟨bc,oc+k1*3,none⟩)) (fun ρ y W hb hKn=>(bv rfl (aD rfl hKn) (aD rfl hKn) hk1l underlying38 cached_size)) rfl rfl (Gf bc (oc+k1*3) rfl rfl (Gc (.int .i64 q.f) (fun W hb=>by simp[hq0 _ hb]) rfl rfl rfl rfl (Gf gc 0 rfl rfl (Gl cx6 rfl rfl rfl rfl rfl (Gb (.bool false) (by simp[go_sem,e2]) rfl rfl rfl rfl rfl (Gk rfl (Gk rfl (Gk rfl (Gf b 9 rfl rfl (Gl hbk6 (V:=.slice (some ⟨bc,oc,none⟩) H.ca.length H.cc) (by simp[dD,hac]) rfl rfl rfl rfl (Gk rfl (Gb (.int .i64 (k1:Int)) (by simp[go_sem,hk1]) rfl rfl rfl rfl rfl (Gr (.pointer (some ⟨bc,oc+k1*3,none⟩)) (fun ρ y W hb hKn=>(bv rfl (aD rfl hKn) (aD rfl hKn) hk1l underlying38 cached_size)) rfl rfl (Gf bc (oc+k1*3) rfl rfl (Gc (.int .i64 q.f) (fun W hb=>by simp[hq0 _ hb]) rfl rfl rfl rfl (Gf gc 0 rfl rfl (Gl cx6 rfl rfl rfl rfl rfl (Gb (.bool true) (by simp[go_sem,e3]) rfl rfl rfl rfl rfl (Gk rfl (Gk rfl (Gk rfl (Gf b 9 rfl rfl (Gl hbk6 (V:=.slice (some ⟨bc,oc,none⟩) H.ca.length H.cc) (by simp[dD,hac]) rfl rfl rfl rfl (Gk rfl (Gb (.int .i64 (k1:Int)) (by simp[go_sem,hk1]) rfl rfl rfl rfl rfl (Gr (.pointer (some ⟨bc,oc+k1*3,none⟩)) (fun ρ y W hb hKn=>(bv rfl (aD rfl hKn) (aD rfl hKn) hk1l underlying38 cached_size)) rfl rfl (Gf bc (oc+k1*3+1) rfl rfl (Gc (.int .i64 q.i) (fun W hb=>by simp[hq1 _ hb]) rfl rfl rfl rfl (Gf gc 1 rfl rfl (Gl cx6 rfl rfl rfl rfl rfl (Gb (.bool true) (by simp[go_sem,e4]) rfl rfl rfl rfl rfl (Gk rfl (Gk rfl (Gk rfl (aB))))))))))))))))))))))))))))))))))))))))))))) (fun _=>rfl) rfl ?_;intro y W7 hbW7 _;have hbr7:=ae hbr6 hbW7;clear hbW7;have hL2:Hid (Lk=2):=Lib.hid (by rw[hE7.out,hpq.out];simp only;rw[if_pos hbad.out]);have hq:Hid (cachedE H.ma=2):=Lib.hid (by rw[hfin.out (by rw[hL2.out];decide),hL2.out]);clear hq0 hq1 hk1 hk1l cx6 hbk6;go_wp2;go_ret;rw[hq.out];exact⟨rfl,hbr7⟩
    have hL0:Hid (Lk=0):=Lib.hid (by rw[hE7.out,hpq.out];simp only;rw[if_neg (by omega)]);refine aK 44 [_,_,_,_,_,_,_,_,_,_,_,_,_,_,_,_,_,_,_,_,_,_,_,_,_,_,_,_,_,_,_,_,_,_,_,_,_,_,_,_,_,_,_,.v (.bool false)] (Gk rfl (Gb (.bool true) (by simp[go_sem,e1i]) rfl rfl rfl rfl rfl (Gk rfl (Gk rfl (Gk rfl (Gf b 9 rfl rfl (Gl hbk6 (V:=.slice (some ⟨bc,oc,none⟩) H.ca.length H.cc) (by simp[dD,hac]) rfl rfl rfl rfl (Gk rfl (Gb (.int .i64 (k1:Int)) (by simp[go_sem,hk1]) rfl rfl rfl rfl rfl (Gr (.pointer (some ⟨bc,oc+k1*3,none⟩)) (fun ρ y W hb hKn=>(bv rfl (aD rfl hKn) (aD rfl hKn) hk1l underlying38 cached_size)) rfl rfl (Gf bc (oc+k1*3) rfl rfl (Gc (.int .i64 q.f) (fun W hb=>by simp[hq0 _ hb]) rfl rfl rfl rfl (Gf gc 0 rfl rfl (Gl cx6 rfl rfl rfl rfl rfl (Gb (.bool false) (by simp[go_sem,e2]) rfl rfl rfl rfl rfl (Gk rfl (Gk rfl (Gk rfl (Gf b 9 rfl rfl (Gl hbk6 (V:=.slice (some ⟨bc,oc,none⟩) H.ca.length H.cc) (by simp[dD,hac]) rfl rfl rfl rfl (Gk rfl (Gb (.int .i64 (k1:Int)) (by simp[go_sem,hk1]) rfl rfl rfl rfl rfl (Gr (.pointer (some ⟨bc,oc+k1*3,none⟩)) (fun ρ y W hb hKn=>(bv rfl (aD rfl hKn) (aD rfl hKn) hk1l underlying38 cached_size)) rfl rfl (Gf bc (oc+k1*3) rfl rfl (Gc (.int .i64 q.f) (fun W hb=>by simp[hq0 _ hb]) rfl rfl rfl rfl (Gf gc 0 rfl rfl (Gl cx6 rfl rfl rfl rfl rfl (Gb (.bool true) (by simp[go_sem,e3]) rfl rfl rfl rfl rfl (Gk rfl (Gk rfl (Gk rfl (Gf b 9 rfl rfl (Gl hbk6 (V:=.slice (some ⟨bc,oc,none⟩) H.ca.length H.cc) (by simp[dD,hac]) rfl rfl rfl rfl (Gk rfl (Gb (.int .i64 (k1:Int)) (by simp[go_sem,hk1]) rfl rfl rfl rfl rfl (Gr (.pointer (some ⟨bc,oc+k1*3,none⟩)) (fun ρ y W hb hKn=>(bv rfl (aD rfl hKn) (aD rfl hKn) hk1l underlying38 cached_size)) rfl rfl (Gf bc (oc+k1*3+1) rfl rfl (Gc (.int .i64 q.i) (fun W hb=>by simp[hq1 _ hb]) rfl rfl rfl rfl (Gf gc 1 rfl rfl (Gl cx6 rfl rfl rfl rfl rfl (Gb (.bool false) (by simp[go_sem,e4]) rfl rfl rfl rfl rfl (Gk rfl (Gk rfl (Gk rfl (aB))))))))))))))))))))))))))))))))))))))))))))) (fun _=>rfl) rfl ?_;intro y W7 hbW7 _;have hbr7:=ae hbr6 hbW7;clear hbW7;have hall:=Lib.hid (hnx.out hL0.out);clear hq0 hq1 hk1 hk1l cx6 hbk6;go_wp2;go_roundw
    case rel=>exact⟨k+1,by omega,by go_num,hbr7,hall⟩
    case measure=>simp[intOf];omega
   have hL0:Hid (Lk=0):=Lib.hid (by rw[hE7.out,hpq.out];simp only;rw[if_neg (by omega)]);refine aK 44 [_,_,_,_,_,_,_,_,_,_,_,_,_,_,_,_,_,_,_,_,_,_,_,_,_,_,_,_,_,_,_,_,_,_,_,_,_,_,_,_,_,_,_,.v (.bool false)] (Gk rfl (Gb (.bool true) (by simp[go_sem,e1i]) rfl rfl rfl rfl rfl (Gk rfl (Gk rfl (Gk rfl (Gf b 9 rfl rfl (Gl hbk6 (V:=.slice (some ⟨bc,oc,none⟩) H.ca.length H.cc) (by simp[dD,hac]) rfl rfl rfl rfl (Gk rfl (Gb (.int .i64 (k1:Int)) (by simp[go_sem,hk1]) rfl rfl rfl rfl rfl (Gr (.pointer (some ⟨bc,oc+k1*3,none⟩)) (fun ρ y W hb hKn=>(bv rfl (aD rfl hKn) (aD rfl hKn) hk1l underlying38 cached_size)) rfl rfl (Gf bc (oc+k1*3) rfl rfl (Gc (.int .i64 q.f) (fun W hb=>by simp[hq0 _ hb]) rfl rfl rfl rfl (Gf gc 0 rfl rfl (Gl cx6 rfl rfl rfl rfl rfl (Gb (.bool false) (by simp[go_sem,e2]) rfl rfl rfl rfl rfl (Gk rfl (Gk rfl (Gk rfl (Gf b 9 rfl rfl (Gl hbk6 (V:=.slice (some ⟨bc,oc,none⟩) H.ca.length H.cc) (by simp[dD,hac]) rfl rfl rfl rfl (Gk rfl (Gb (.int .i64 (k1:Int)) (by simp[go_sem,hk1]) rfl rfl rfl rfl rfl (Gr (.pointer (some ⟨bc,oc+k1*3,none⟩)) (fun ρ y W hb hKn=>(bv rfl (aD rfl hKn) (aD rfl hKn) hk1l underlying38 cached_size)) rfl rfl (Gf bc (oc+k1*3) rfl rfl (Gc (.int .i64 q.f) (fun W hb=>by simp[hq0 _ hb]) rfl rfl rfl rfl (Gf gc 0 rfl rfl (Gl cx6 rfl rfl rfl rfl rfl (Gb (.bool false) (by simp[go_sem,e3]) rfl rfl rfl rfl rfl (Gk rfl (Gk rfl (Gk rfl (Gk rfl (Gk rfl (Gk rfl (Gk rfl (Gk rfl (Gk rfl (Gk rfl (Gk rfl (Gk rfl (Gk rfl (Gk rfl (Gk rfl (Gk rfl (aB))))))))))))))))))))))))))))))))))))))))))))) (fun _=>rfl) rfl ?_;intro y W7 hbW7 _;have hbr7:=ae hbr6 hbW7;clear hbW7;have hall:=Lib.hid (hnx.out hL0.out);clear hq0 hq1 hk1 hk1l cx6 hbk6;go_wp2;go_roundw
   case rel=>exact⟨k+1,by omega,by go_num,hbr7,hall⟩
   case measure=>simp[intOf];omega
  have hki:¬(k:Int)<(H.ca.length:Int):=by omega
  have hq:Hid (cachedE H.ma=0):=Lib.hid (by rw[hLE.out,rO fun i hi=>hz.out i hi (by rw[hLl.out] at hi;omega)]);clear hz;go_wp2;go_ret;rw[hq.out];exact⟨rfl,hbr⟩
theorem PO {s:Sp} {n:Int} (h:kD s.ar n<0):bS m s n=5:=by unfold bS;exact if_pos h
theorem LC (H:MH) (P:PS) (n:Int) (b bs os:Nat) (w:World) (hbk:aC w b (dD H) 41) (h:BF w H) (hrd:dN w (some ⟨bs,os,none⟩) (tF P)) (hg:P.good w) (har:(bG P.ar).1=0) (htb:cK P.tb=0) (hn:0≤n∧n<64) :
  Calls Tryz.prog 68 #[.pointer (some ⟨b,0,none⟩),.pointer (some ⟨bs,os,none⟩),.int .i64 n] w fun r w'=>r = .returned (.int .i64 (bS H.ma P.sp n))∧Below w.heap.size w w':=by
 have hs1:∀W,Below w.heap.size w W→W.cell? ⟨bs,os+1,none⟩=some (.slice P.aa P.ar.length P.ac):=fun W hb=>by obtain⟨b',o',e,hc⟩:=(hrd.below hb) 1 _ rfl;cases e;exact hc
 go_enter func68,ntmps68;have hc1:=hs1 w (Below.refl _ _);have hA:=hg.ars
 go_wp2_with fail
 refine (NY P.ar n P.aa P.ac _ hA.rd (by have:=hA.le;have:=hA.mx;unfold maxLen at this;omega)).mono ?_;rintro r w1 ⟨rfl,hb1⟩;have hbk1:=hbk.ext hb1;have h1:=h.below hb1;have hg1:=hg.below hb1;have hrd1:=hrd.below hb1;clear hc1 hA
 by_cases hf:kD P.ar n<0
 ·have hq:Hid (bS H.ma P.sp n=5):=Lib.hid (PO hf);clear hbk1;go_wp2;go_ret;rw[hq.out];exact⟨rfl,hb1⟩
 have hE:Hid (bS H.ma P.sp n=(let a:=P.ar.getD (kD P.ar n).toNat zAr
  let e:=dG P.tb n
  if e.k=2 then (if (H.sl.length:Int)≤e.n∨a.sh=true then 7 else 0)
  else if (H.m.fs.length:Int)≤e.n then 3 else
  let f:=rA H.ma e.n;let of:=decide (0≤a.fi)&&decide (f.f=a.fi)&&decide (f.i=a.ba+n-a.fr)
  if 0≤f.f∧of=false∨a.sh=true∧of=false∨a.sh=false∧of=true∧e.w=true∨e.w=true∧a.wr=false then 7
  else if f.f<0∧e.w=true∧1<f.r then 7 else 0)):=Lib.hid (by unfold bS;exact if_neg hf)
 obtain⟨k,hk,hkl,_⟩:=Ns (q:=nS n) (l:=P.ar) (by show 0≤kD P.ar n;omega);have hk' : kD P.ar n=k:=hk;rw[hk',bU,aW,aG hkl] at hE;simp only[nV] at hE;have hkn:¬(k:Int)<0:=by omega
 rw[hk'];obtain⟨ba,oa,haa,hard⟩:=jH su (by decide) hg1.ars.rd k hkl;have haE:=(AZ har).2 _ (dP hkl);have hafew:=(bC haE).1;have hent:=(dw _).1 (qU htb n);generalize P.ar[k]=a at *
 generalize hge:dG P.tb n=e at *
 have hge':=Lib.hid hge;clear hk hk' hf haE hge;go_upto_region 4 with (fail);refine mW 15 [_,_,_,_,_,_,_,_,_,_,_,.v (.agg (jk e)),.r 12 ((kv w1.heap.size 89 3)),.v (.pointer (some ⟨ba,oa+k*7,none⟩)),.y 14 ((Qu 12 w1.heap.size 89 (uy (.agg (jk e)))))] (fun W=>Below w1.heap.size w1 W) gB (Below.refl _ _) (Yk gB rfl (Yk gB rfl (Yf gB bs (os+1) rfl rfl (Yc gB (.slice (some ⟨ba,oa,none⟩) P.ar.length P.ac) (fun W hb=>by simp[hs1 _ (ae hb1 hb),haa]) rfl rfl rfl rfl (Yk gB rfl (Yr gB (.pointer (some ⟨ba,oa+k*7,none⟩)) (fun ρ y W hb hKn=>(bv rfl (aD rfl hKn) (aD rfl hKn) hkl underlying50 area_size)) rfl rfl (Yk gB rfl (Yk gB rfl (Yf gB bs (os+2) rfl rfl (Yr gB (.agg (ng P.ts)) (fun ρ y W hb hKn=>(bB rfl (aD rfl hKn) (uz (hrd1.below hb) 2 8) underlying53 tab_agg tab_size)) rfl rfl (Yk gB rfl (ag ?_ (ag ?_ (Yk gB rfl (ag ?_ (aB)))))))))))))))) (fun _=>rfl) rfl ?_
 ·intro ρ y W hw hn hb hd;refine lM gB hb (uy (.agg (jk e))) (fun _ _ h=>h) ?_;have E30:=hw 30 9 rfl;have h9:y 9 = .agg (ng P.ts):=hd 9 rfl;have E31:=hw 31 10 rfl;have h10:y 10 = .int .i64 n:=hd 10 rfl;have EF:∀f,ρ (.func f) = .func (.func f) #[] #[]:=fun f=>hn (.func f) trivial;refine aO _ _ (ah rfl) (aQ rfl (EF _) func69 (by kernel_rfl) (by kernel_rfl) (by simp only[bP,bM,bN,E30,h9,E31,h10,EF];rfl)) ?_;refine (zX P.tb (ng P.ts) n W (hg1.below hb).tb).mono ?_;rintro r w2 ⟨rfl,hb2⟩;rw[hge'.out];exact⟨_,rfl,hb2,rfl⟩
 ·intro ρ y W hw hn hb hd;refine lM gB hb ((kv w1.heap.size 89 3)) (fun _ _ h=>h) ?_;refine jL (.pointer (some ⟨W.heap.size,0,none⟩)) (ah rfl) (by simp[execOp,go_sem,cZ]) ((Below.refl _ _).alloc (ay _) (.cells #[.int .i64 0,.int .i64 0,.bool false] 89)) ?_;exact⟨_,_,rfl,hb.size,aC.new _ _ _,rfl⟩
 ·intro ρ y W hw hn hb hd;have E9:=hw 9 12 rfl;have h12:=hd 12 rfl;have E32:=hw 32 11 rfl;have h11:y 11 = .agg (jk e):=hd 11 rfl;obtain⟨g3,cur3,e9,hg9,hb9,hs9⟩:=h12;refine rF (ah rfl) _ _ _ rfl g3 0 (.agg (jk e)) (jk e).toList (E9.trans e9) (E32.trans h11) rfl cur3 _ hb9 (by rw[hs9];exact ay _) entry_size (bR (by simp[jk,Value.oneCell'])) ?_;intro w1 hw1 hgr;rw[iO cur3 _ (by rw[hs9];rfl)] at hw1;refine⟨hb.grown hgr hb.size (fun k hk=>by cases hk;exact hg9),⟨g3,_,e9,hg9,hw1,rfl⟩,?_⟩;intro k hk hne
  match k,hk,hne with
  | 0,_,_=>exact fun h=>h
  | 1,_,_=>exact fun h=>h
  | 2,_,_=>exact fun h=>h
  | 3,_,_=>exact fun h=>h
  | 4,_,_=>exact fun h=>h
  | 5,_,_=>exact fun h=>h
  | 6,_,_=>exact fun h=>h
  | 7,_,_=>exact fun h=>h
  | 8,_,_=>exact fun h=>h
  | 9,_,_=>exact fun h=>h
  | 10,_,_=>exact fun h=>h
  | 11,_,_=>exact fun h=>h
  | 12,_,_=>exact fun q=>pF q hw1 (fun _=>rfl) ⟨_,hb9⟩ hgr
  | 13,_,_=>exact fun h=>h
  | 14,_,h=>exact absurd rfl h
  | n+15,h,_=>exact absurd h (by omega)
 intro y w4 hbw4 hRw4;replace hbw4:Below w1.heap.size w1 w4:=hbw4;have hy12:((kv w1.heap.size 89 3)).r (y 12) w4:=hRw4 12 (by decide);have hy14:=hRw4 14 (by decide);clear hRw4;simp only[bT,cZ,bM,bN];obtain⟨ge,cce,hgee,hges,hb4,hcce⟩:=hy14;have hcce' : cce=jk e:=by simpa[uy] using hcce
 subst hcce';rw[hgee];have hbel4:=hbw4;have hbr4:=ae hb1 hbel4;have ex:=hb4;have hbk4:=hbk.ext hbr4;have h4:=h.below hbr4;have hard4:=hard.below hbel4;clear hbw4 hbel4 hgee hb4 hard hrd1 hbk1 h1 hb1 hs1 hg1 hy12;have hAc:∀j u,(mF a)[j]?=some u→∀W,Below w4.heap.size w4 W→W.cell? ⟨ba,oa+k*7+j,none⟩=some u:=fun j u hj W hb=>by obtain⟨b',o',e',hc⟩:=(hard4.below hb) j u hj;cases e';exact hc
 have hA3:=hAc 3 _ rfl;have hA4:=hAc 4 _ rfl;have hA5:=hAc 5 _ rfl;have hA6:=hAc 6 _ rfl;have hA0:∀W,Below w4.heap.size w4 W→W.cell? ⟨ba,oa+k*7,none⟩=some (.int .i64 a.fr):=hAc 0 _ rfl;have hce:=ex.cell;unfold jk at hce;clear hAc hard4
 by_cases hk2:e.k=2
 ·rw[if_pos hk2] at hE;rw[hk2] at hce;go_upto_region 6 with (fail);clear hce hk2
  by_cases c1:(H.sl.length:Int)≤e.n
  ·have hq:Hid (bS H.ma P.sp n=7):=Lib.hid (by rw[hE.out,if_pos (.inl c1)]);refine aK 14 [_,_,_,_,_,_,_,_,_,_,_,_,_,.v (.bool true)] (Gf ge 1 rfl rfl (Gl ex rfl rfl rfl rfl rfl (Gk rfl (Gk rfl (Gf b 2 rfl rfl (Gl hbk4 rfl rfl rfl rfl rfl (Gn rfl rfl rfl rfl (Gb (.bool true) (by simp[go_sem,c1]) rfl rfl rfl rfl rfl (Gk rfl (Gk rfl (Gk rfl (Gk rfl (Gk rfl (Gk rfl (aB))))))))))))))) (fun _=>rfl) rfl ?_;intro y W5 hbW5 _;have hbr5:=ae hbr4 hbW5;clear hbW5;go_wp2;go_ret;rw[hq.out];exact⟨rfl,hbr5⟩
  cases c2:a.sh with
  | true=>
   have hq:Hid (bS H.ma P.sp n=7):=Lib.hid (by rw[hE.out,if_pos (.inr c2)]);refine aK 14 [_,_,_,_,_,_,_,_,_,_,_,_,_,.v (.bool true)] (Gf ge 1 rfl rfl (Gl ex rfl rfl rfl rfl rfl (Gk rfl (Gk rfl (Gf b 2 rfl rfl (Gl hbk4 rfl rfl rfl rfl rfl (Gn rfl rfl rfl rfl (Gb (.bool false) (by simp[go_sem,c1]) rfl rfl rfl rfl rfl (Gk rfl (Gk rfl (Gk rfl (Gf ba (oa+k*7+4) rfl rfl (Gc (.bool true) (fun W hb=>by simp[hA4 _ hb,c2]) rfl rfl rfl rfl (Gk rfl (aB))))))))))))))) (fun _=>rfl) rfl ?_;intro y W5 hbW5 _;have hbr5:=ae hbr4 hbW5;clear hbW5;go_wp2;go_ret;rw[hq.out];exact⟨rfl,hbr5⟩
  | false=>
   have hq:Hid (bS H.ma P.sp n=0):=Lib.hid (by rw[hE.out,if_neg (by rw[c2];simp;omega)]);refine aK 14 [_,_,_,_,_,_,_,_,_,_,_,_,_,.v (.bool false)] (Gf ge 1 rfl rfl (Gl ex rfl rfl rfl rfl rfl (Gk rfl (Gk rfl (Gf b 2 rfl rfl (Gl hbk4 rfl rfl rfl rfl rfl (Gn rfl rfl rfl rfl (Gb (.bool false) (by simp[go_sem,c1]) rfl rfl rfl rfl rfl (Gk rfl (Gk rfl (Gk rfl (Gf ba (oa+k*7+4) rfl rfl (Gc (.bool false) (fun W hb=>by simp[hA4 _ hb,c2]) rfl rfl rfl rfl (Gk rfl (aB))))))))))))))) (fun _=>rfl) rfl ?_;intro y W5 hbW5 _;have hbr5:=ae hbr4 hbW5;clear hbW5;go_wp2;go_ret;rw[hq.out];exact⟨rfl,hbr5⟩
 rw[if_neg hk2] at hE;obtain⟨K,hK⟩:∃K:Nat,e.n=K:=⟨e.n.toNat,by omega⟩;rw[hK] at hE;go_upto_region 9 with (fail);clear hce
 by_cases c3:(H.m.fs.length:Int)≤(K:Int)
 ·have hq:Hid (bS H.ma P.sp n=3):=Lib.hid (by rw[hE.out,if_pos c3]);have c3e:(H.m.fs.length:Int)≤e.n:=by omega
  refine aK 9 [_,_,_,_,_,_,_,_,_] (Gf ge 1 rfl rfl (Gl ex rfl rfl rfl rfl rfl (Gk rfl (Gk rfl (Gf b 0 rfl rfl (Gf b 0 rfl rfl (Gl hbk4 rfl rfl rfl rfl rfl (Gn rfl rfl rfl rfl (Gb (.bool true) (by simp[go_sem,c3e]) rfl rfl rfl rfl rfl (aB)))))))))) (fun _=>rfl) rfl ?_;intro y W5 hbW5 _;have hbr5:=ae hbr4 hbW5;clear hbW5 hA0 hA3 hA4 hA5 hA6 c3 c3e;go_wp2;go_ret;rw[hq.out];exact⟨rfl,hbr5⟩
 rw[if_neg c3] at hE;have c3e:¬(H.m.fs.length:Int)≤e.n:=by omega
 refine aK 9 [_,_,_,_,_,_,_,_,_] (Gf ge 1 rfl rfl (Gl ex rfl rfl rfl rfl rfl (Gk rfl (Gk rfl (Gf b 0 rfl rfl (Gf b 0 rfl rfl (Gl hbk4 rfl rfl rfl rfl rfl (Gn rfl rfl rfl rfl (Gb (.bool false) (by simp[go_sem,c3e]) rfl rfl rfl rfl rfl (aB)))))))))) (fun _=>rfl) rfl ?_;intro y W5 hbW5 _;have hbr5:=ae hbr4 hbW5;have hKl:K<H.m.fs.length:=by omega
 replace ex:=ex.ext hbW5;have hbk5:=hbk.ext hbr5;have h5:=h.below hbr5;have sh:∀ {u:Value} {z:Addr},(∀W,Below w4.heap.size w4 W→W.cell? z=some u)→∀W,Below W5.heap.size W5 W→W.cell? z=some u:=fun hh W hb=>hh W (ae hbW5 hb);replace hA0:=sh hA0;replace hA3:=sh hA3;replace hA4:=sh hA4;replace hA5:=sh hA5;replace hA6:=sh hA6;obtain⟨bg,og,haf,hfrd⟩:=jH eZ (by decide) h5.fr.rd K hKl;have hxf:H.m.fs[K]=aT H.ma K:=by have:=xN (m:=H.ma) (f:=K) hKl;have h2:H.m.fs[K]?=some (aT H.ma K):=this;rw[aG hKl] at h2;exact aJ h2
 rw[hxf] at hfrd;have hE2:Hid (bS H.ma P.sp n=(let of:=decide (0≤a.fi)&&decide ((aT H.ma K).f=a.fi)&&decide ((aT H.ma K).i=a.ba+n-a.fr)
  if 0≤(aT H.ma K).f∧of=false∨a.sh=true∧of=false∨a.sh=false∧of=true∧e.w=true∨e.w=true∧a.wr=false then 7
  else if (aT H.ma K).f<0∧e.w=true∧1<(aT H.ma K).r then 7 else 0)):=Lib.hid (by rw[hE.out];rfl)
 generalize aT H.ma K=x at *
 clear hE hxf hbW5 hbk4 h4 hbr4 c3 sh;go_upto_region 11 with (fail);refine aK 9 [_,_,_,_,_,_,_,_,.v (.pointer (some ⟨bg,og+K*13,none⟩))] (Gk rfl (Gk rfl (Gf b 0 rfl rfl (Gf b 0 rfl rfl (Gl hbk5 (V:=.slice (some ⟨bg,og,none⟩) H.m.fs.length H.cf) (by simp[dD,haf]) rfl rfl rfl rfl (Gf ge 1 rfl rfl (Gl ex (V:=.int .i64 (K:Int)) (by simp[jk,hK]) rfl rfl rfl rfl (Gr (.pointer (some ⟨bg,og+K*13,none⟩)) (fun ρ y W hb hKn=>(bv rfl (aD rfl hKn) (aD rfl hKn) hKl underlying26 frame_size)) rfl rfl (Gk rfl (aB)))))))))) (fun _=>rfl) rfl ?_;intro y W7 hbW7 _;have hbr7:=ae hbr5 hbW7;have ex7:=ex.ext hbW7;have hbk7:=hbk.ext hbr7;have sh:∀ {u:Value} {z:Addr},(∀W,Below W5.heap.size W5 W→W.cell? z=some u)→∀W,Below W7.heap.size W7 W→W.cell? z=some u:=fun hh W hb=>hh W (ae hbW7 hb);replace hA0:=sh hA0;replace hA3:=sh hA3;replace hA4:=sh hA4;replace hA5:=sh hA5;replace hA6:=sh hA6;have hfrd7:=hfrd.below hbW7;clear ex hbk5 hbW7 sh hfrd hbr5 h5;have hw1:IntKind.i64.wrap (a.ba+n)=a.ba+n:=bJ _ (by obtain⟨⟨z1,z2⟩,⟨z3,z4⟩,z5,z6⟩:=hafew;omega);have hw2:IntKind.i64.wrap (a.ba+n-a.fr)=a.ba+n-a.fr:=bJ _ (by obtain⟨⟨z1,z2⟩,⟨z3,z4⟩,z5,z6⟩:=hafew;omega);go_upto_region 12 with (fail);refine aK 12 [_,_,_,_,_,_,_,_,_,_,_,.v (.int .i64 (a.ba+n-a.fr))] (Gk rfl (Gk rfl (Gf ba (oa+k*7+6) rfl rfl (Gc (.int .i64 a.ba) (fun W hb=>by simp[hA6 _ hb]) rfl rfl rfl rfl (Gk rfl (Gb (.int .i64 (a.ba+n)) (by simp[go_sem,hw1]) rfl rfl rfl rfl rfl (Gk rfl (Gk rfl (Gf ba (oa+k*7) rfl rfl (Gc (.int .i64 a.fr) (fun W hb=>by simp[hA0 _ hb]) rfl rfl rfl rfl (Gb (.int .i64 (a.ba+n-a.fr)) (by simp[go_sem,hw2]) rfl rfl rfl rfl rfl (Gk rfl (aB))))))))))))) (fun _=>rfl) rfl ?_;intro y W5 hbW5 _;have hbr5:=ae hbr7 hbW5;have ex:=ex7.ext hbW5;have hbk5:=hbk.ext hbr5;have sh:∀ {u:Value} {z:Addr},(∀W,Below W7.heap.size W7 W→W.cell? z=some u)→∀W,Below W5.heap.size W5 W→W.cell? z=some u:=fun hh W hb=>hh W (ae hbW5 hb);replace hA3:=sh hA3;replace hA4:=sh hA4;replace hA5:=sh hA5;have hfrd:=hfrd7.below hbW5;clear ex7 hbk7 hbW5 sh hfrd7 hbr7 hw1 hw2 hA0 hA6;have hXc:∀j u,(pO x)[j]?=some u→∀W,Below W5.heap.size W5 W→W.cell? ⟨bg,og+K*13+j,none⟩=some u:=fun j u hj W hb=>by obtain⟨b',o',e',hc⟩:=(hfrd.below hb) j u hj;cases e';exact hc
 have hX8:=hXc 8 _ rfl;have hX11:=hXc 11 _ rfl;have hX12:=hXc 12 _ rfl;clear hXc hfrd;go_upto_region 13 with (fail)
 by_cases g1:0≤a.fi
 ·by_cases g2:x.f=a.fi
  ·by_cases g3:x.i=a.ba+n-a.fr
   ·skip;refine aK 25 [_,_,_,_,_,_,_,_,_,_,_,_,_,_,_,_,_,_,_,_,_,_,_,_,.v (.bool true)] (Gk rfl (Gk rfl (Gf ba (oa+k*7+5) rfl rfl (Gc (.int .i64 a.fi) (fun W hb=>by simp[hA5 _ hb]) rfl rfl rfl rfl (Gb (.bool true) (by simp[go_sem,g1]) rfl rfl rfl rfl rfl (Gk rfl (Gk rfl (Gk rfl (Gf bg (og+K*13+11) rfl rfl (Gc (.int .i64 x.f) (fun W hb=>by simp[hX11 _ hb]) rfl rfl rfl rfl (Gk rfl (Gk rfl (Gf ba (oa+k*7+5) rfl rfl (Gc (.int .i64 a.fi) (fun W hb=>by simp[hA5 _ hb]) rfl rfl rfl rfl (Gb (.bool true) (by simp[go_sem,g2]) rfl rfl rfl rfl rfl (Gk rfl (Gk rfl (Gk rfl (Gk rfl (Gf bg (og+K*13+12) rfl rfl (Gc (.int .i64 x.i) (fun W hb=>by simp[hX12 _ hb]) rfl rfl rfl rfl (Gk rfl (Gb (.bool true) (by simp[go_sem,g3]) rfl rfl rfl rfl rfl (Gk rfl (Gk rfl (aB)))))))))))))))))))))))))) (fun _=>rfl) rfl ?_;intro y W6 hbW6 _;have hbr6:=ae hbr5 hbW6;have x8:=hX8 _ hbW6;have x11:=hX11 _ hbW6;have a3:=hA3 _ hbW6;have a4:=hA4 _ hbW6;have hce:=(ex.ext hbW6).cell;unfold jk at hce;clear hbW6 hA3 hA4 hA5 hX8 hX11 hX12 ex hbk5;have f1:0≤x.f:=by omega
    have f1n:¬x.f<0:=by omega
    replace hE2:Hid (bS H.ma P.sp n=if a.sh=false∧e.w=true∨e.w=true∧a.wr=false then 7 else 0):=Lib.hid (by rw[hE2.out,decide_eq_true g1,decide_eq_true g2,decide_eq_true g3];simp[f1n]);clear g2 g3;cases f2:a.sh with
    | true=>
     rw[f2] at a4;cases f3:e.w with
     | false=>
      rw[f3] at hce;have hq:Hid (bS H.ma P.sp n=0):=Lib.hid (by rw[hE2.out];simp[*];try omega);clear hE2;go_wp2;go_ret;rw[hq.out];exact⟨rfl,hbr6⟩
     | true=>
      rw[f3] at hce;cases f4:a.wr with
      | false=>
       rw[f4] at a3;have hq:Hid (bS H.ma P.sp n=7):=Lib.hid (by rw[hE2.out];simp[*];try omega);clear hE2;go_wp2;go_ret;rw[hq.out];exact⟨rfl,hbr6⟩
      | true=>
       rw[f4] at a3;have hq:Hid (bS H.ma P.sp n=0):=Lib.hid (by rw[hE2.out];simp[*];try omega);clear hE2;go_wp2;go_ret;rw[hq.out];exact⟨rfl,hbr6⟩
    | false=>
     rw[f2] at a4;cases f3:e.w with
     | true=>
      rw[f3] at hce;have hq:Hid (bS H.ma P.sp n=7):=Lib.hid (by rw[hE2.out];simp[*];try omega);clear hE2;go_wp2;go_ret;rw[hq.out];exact⟨rfl,hbr6⟩
     | false=>
      rw[f3] at hce;have hq:Hid (bS H.ma P.sp n=0):=Lib.hid (by rw[hE2.out];simp[*];try omega);clear hE2;go_wp2;go_ret;rw[hq.out];exact⟨rfl,hbr6⟩
   skip;refine aK 25 [_,_,_,_,_,_,_,_,_,_,_,_,_,_,_,_,_,_,_,_,_,_,_,_,.v (.bool false)] (Gk rfl (Gk rfl (Gf ba (oa+k*7+5) rfl rfl (Gc (.int .i64 a.fi) (fun W hb=>by simp[hA5 _ hb]) rfl rfl rfl rfl (Gb (.bool true) (by simp[go_sem,g1]) rfl rfl rfl rfl rfl (Gk rfl (Gk rfl (Gk rfl (Gf bg (og+K*13+11) rfl rfl (Gc (.int .i64 x.f) (fun W hb=>by simp[hX11 _ hb]) rfl rfl rfl rfl (Gk rfl (Gk rfl (Gf ba (oa+k*7+5) rfl rfl (Gc (.int .i64 a.fi) (fun W hb=>by simp[hA5 _ hb]) rfl rfl rfl rfl (Gb (.bool true) (by simp[go_sem,g2]) rfl rfl rfl rfl rfl (Gk rfl (Gk rfl (Gk rfl (Gk rfl (Gf bg (og+K*13+12) rfl rfl (Gc (.int .i64 x.i) (fun W hb=>by simp[hX12 _ hb]) rfl rfl rfl rfl (Gk rfl (Gb (.bool false) (by simp[go_sem,g3]) rfl rfl rfl rfl rfl (Gk rfl (Gk rfl (aB)))))))))))))))))))))))))) (fun _=>rfl) rfl ?_;intro y W6 hbW6 _;have hbr6:=ae hbr5 hbW6;have x8:=hX8 _ hbW6;have x11:=hX11 _ hbW6;have a3:=hA3 _ hbW6;have a4:=hA4 _ hbW6;have hce:=(ex.ext hbW6).cell;unfold jk at hce;clear hbW6 hA3 hA4 hA5 hX8 hX11 hX12 ex hbk5;have hof:(decide (0≤a.fi)&&decide (x.f=a.fi)&&decide (x.i=a.ba+n-a.fr))=false:=by simp[*]
   replace hE2:Hid (bS H.ma P.sp n=if 0≤x.f∨a.sh=true∨e.w=true∧a.wr=false then 7 else if x.f<0∧e.w=true∧1<x.r then 7 else 0):=Lib.hid (by rw[hE2.out,hof];simp);clear hof g2 g3
   by_cases f1:0≤x.f
   ·skip;have hq:Hid (bS H.ma P.sp n=7):=Lib.hid (by rw[hE2.out];simp[*];try omega);clear hE2;go_wp2;go_ret;rw[hq.out];exact⟨rfl,hbr6⟩
   have f1n:x.f<0:=by omega
   cases f2:a.sh with
   | true=>
    rw[f2] at a4;have hq:Hid (bS H.ma P.sp n=7):=Lib.hid (by rw[hE2.out];simp[*];try omega);clear hE2;go_wp2;go_ret;rw[hq.out];exact⟨rfl,hbr6⟩
   | false=>
    rw[f2] at a4;cases f3:e.w with
    | false=>
     rw[f3] at hce;have hq:Hid (bS H.ma P.sp n=0):=Lib.hid (by rw[hE2.out];simp[*];try omega);clear hE2;go_wp2;go_ret;rw[hq.out];exact⟨rfl,hbr6⟩
    | true=>
     rw[f3] at hce;cases f4:a.wr with
     | false=>
      rw[f4] at a3;have hq:Hid (bS H.ma P.sp n=7):=Lib.hid (by rw[hE2.out];simp[*];try omega);clear hE2;go_wp2;go_ret;rw[hq.out];exact⟨rfl,hbr6⟩
     | true=>
      rw[f4] at a3
      by_cases f5:1<x.r
      ·skip;have hq:Hid (bS H.ma P.sp n=7):=Lib.hid (by rw[hE2.out];simp[*];try omega);clear hE2;go_wp2;go_ret;rw[hq.out];exact⟨rfl,hbr6⟩
      skip;have hq:Hid (bS H.ma P.sp n=0):=Lib.hid (by rw[hE2.out];simp[*];try omega);clear hE2;go_wp2;go_ret;rw[hq.out];exact⟨rfl,hbr6⟩
  skip;refine aK 25 [_,_,_,_,_,_,_,_,_,_,_,_,_,_,_,_,_,_,_,_,_,_,_,_,.v (.bool false)] (Gk rfl (Gk rfl (Gf ba (oa+k*7+5) rfl rfl (Gc (.int .i64 a.fi) (fun W hb=>by simp[hA5 _ hb]) rfl rfl rfl rfl (Gb (.bool true) (by simp[go_sem,g1]) rfl rfl rfl rfl rfl (Gk rfl (Gk rfl (Gk rfl (Gf bg (og+K*13+11) rfl rfl (Gc (.int .i64 x.f) (fun W hb=>by simp[hX11 _ hb]) rfl rfl rfl rfl (Gk rfl (Gk rfl (Gf ba (oa+k*7+5) rfl rfl (Gc (.int .i64 a.fi) (fun W hb=>by simp[hA5 _ hb]) rfl rfl rfl rfl (Gb (.bool false) (by simp[go_sem,g2]) rfl rfl rfl rfl rfl (Gk rfl (Gk rfl (Gk rfl (Gk rfl (Gk rfl (Gk rfl (Gk rfl (Gk rfl (Gk rfl (Gk rfl (aB)))))))))))))))))))))))))) (fun _=>rfl) rfl ?_;intro y W6 hbW6 _;have hbr6:=ae hbr5 hbW6;have x8:=hX8 _ hbW6;have x11:=hX11 _ hbW6;have a3:=hA3 _ hbW6;have a4:=hA4 _ hbW6;have hce:=(ex.ext hbW6).cell;unfold jk at hce;clear hbW6 hA3 hA4 hA5 hX8 hX11 hX12 ex hbk5;have hof:(decide (0≤a.fi)&&decide (x.f=a.fi)&&decide (x.i=a.ba+n-a.fr))=false:=by simp[*]
  replace hE2:Hid (bS H.ma P.sp n=if 0≤x.f∨a.sh=true∨e.w=true∧a.wr=false then 7 else if x.f<0∧e.w=true∧1<x.r then 7 else 0):=Lib.hid (by rw[hE2.out,hof];simp);clear hof g2
  by_cases f1:0≤x.f
  ·skip;have hq:Hid (bS H.ma P.sp n=7):=Lib.hid (by rw[hE2.out];simp[*];try omega);clear hE2;go_wp2;go_ret;rw[hq.out];exact⟨rfl,hbr6⟩
  have f1n:x.f<0:=by omega
  cases f2:a.sh with
  | true=>
   rw[f2] at a4;have hq:Hid (bS H.ma P.sp n=7):=Lib.hid (by rw[hE2.out];simp[*];try omega);clear hE2;go_wp2;go_ret;rw[hq.out];exact⟨rfl,hbr6⟩
  | false=>
   rw[f2] at a4;cases f3:e.w with
   | false=>
    rw[f3] at hce;have hq:Hid (bS H.ma P.sp n=0):=Lib.hid (by rw[hE2.out];simp[*];try omega);clear hE2;go_wp2;go_ret;rw[hq.out];exact⟨rfl,hbr6⟩
   | true=>
    rw[f3] at hce;cases f4:a.wr with
    | false=>
     rw[f4] at a3;have hq:Hid (bS H.ma P.sp n=7):=Lib.hid (by rw[hE2.out];simp[*];try omega);clear hE2;go_wp2;go_ret;rw[hq.out];exact⟨rfl,hbr6⟩
    | true=>
     rw[f4] at a3
     by_cases f5:1<x.r
     ·skip;have hq:Hid (bS H.ma P.sp n=7):=Lib.hid (by rw[hE2.out];simp[*];try omega);clear hE2;go_wp2;go_ret;rw[hq.out];exact⟨rfl,hbr6⟩
     skip;have hq:Hid (bS H.ma P.sp n=0):=Lib.hid (by rw[hE2.out];simp[*];try omega);clear hE2;go_wp2;go_ret;rw[hq.out];exact⟨rfl,hbr6⟩
 skip;refine aK 25 [_,_,_,_,_,_,_,_,_,_,_,_,_,_,_,_,_,_,_,_,_,_,_,_,.v (.bool false)] (Gk rfl (Gk rfl (Gf ba (oa+k*7+5) rfl rfl (Gc (.int .i64 a.fi) (fun W hb=>by simp[hA5 _ hb]) rfl rfl rfl rfl (Gb (.bool false) (by simp[go_sem,g1]) rfl rfl rfl rfl rfl (Gk rfl (Gk rfl (Gk rfl (Gk rfl (Gk rfl (Gk rfl (Gk rfl (Gk rfl (Gk rfl (Gk rfl (Gk rfl (Gk rfl (Gk rfl (Gk rfl (Gk rfl (Gk rfl (Gk rfl (Gk rfl (Gk rfl (Gk rfl (aB)))))))))))))))))))))))))) (fun _=>rfl) rfl ?_;intro y W6 hbW6 _;have hbr6:=ae hbr5 hbW6;have x8:=hX8 _ hbW6;have x11:=hX11 _ hbW6;have a3:=hA3 _ hbW6;have a4:=hA4 _ hbW6;have hce:=(ex.ext hbW6).cell;unfold jk at hce;clear hbW6 hA3 hA4 hA5 hX8 hX11 hX12 ex hbk5;have hof:(decide (0≤a.fi)&&decide (x.f=a.fi)&&decide (x.i=a.ba+n-a.fr))=false:=by simp[*]
 replace hE2:Hid (bS H.ma P.sp n=if 0≤x.f∨a.sh=true∨e.w=true∧a.wr=false then 7 else if x.f<0∧e.w=true∧1<x.r then 7 else 0):=Lib.hid (by rw[hE2.out,hof];simp);clear hof g1
 by_cases f1:0≤x.f
 ·skip;have hq:Hid (bS H.ma P.sp n=7):=Lib.hid (by rw[hE2.out];simp[*];try omega);clear hE2;go_wp2;go_ret;rw[hq.out];exact⟨rfl,hbr6⟩
 have f1n:x.f<0:=by omega
 cases f2:a.sh with
 | true=>
  rw[f2] at a4;have hq:Hid (bS H.ma P.sp n=7):=Lib.hid (by rw[hE2.out];simp[*];try omega);clear hE2;go_wp2;go_ret;rw[hq.out];exact⟨rfl,hbr6⟩
 | false=>
  rw[f2] at a4;cases f3:e.w with
  | false=>
   rw[f3] at hce;have hq:Hid (bS H.ma P.sp n=0):=Lib.hid (by rw[hE2.out];simp[*];try omega);clear hE2;go_wp2;go_ret;rw[hq.out];exact⟨rfl,hbr6⟩
  | true=>
   rw[f3] at hce;cases f4:a.wr with
   | false=>
    rw[f4] at a3;have hq:Hid (bS H.ma P.sp n=7):=Lib.hid (by rw[hE2.out];simp[*];try omega);clear hE2;go_wp2;go_ret;rw[hq.out];exact⟨rfl,hbr6⟩
   | true=>
    rw[f4] at a3
    by_cases f5:1<x.r
    ·skip;have hq:Hid (bS H.ma P.sp n=7):=Lib.hid (by rw[hE2.out];simp[*];try omega);clear hE2;go_wp2;go_ret;rw[hq.out];exact⟨rfl,hbr6⟩
    skip;have hq:Hid (bS H.ma P.sp n=0):=Lib.hid (by rw[hE2.out];simp[*];try omega);clear hE2;go_wp2;go_ret;rw[hq.out];exact⟨rfl,hbr6⟩
def isK (i:Int) (c:Cc):Bool:=decide (c.k=i)
theorem La (c:Cc) (i:Int) (g:Nat) (w:World) (hg:aC w g #[.int .i64 i] 3) :
  Calls Tryz.prog 71 #[.agg (Ab c),.pointer (some ⟨g,0,none⟩)] w fun r w'=>r = .returned (.bool (isK i c))∧Below w.heap.size w w':=by
 go_enter func71,ntmps71;go_upto_region 1 with (fail);refine gI (fun W=>Code.wp _ _ _ _ W) fun W0 hb0 hx0 hs0 => ?_;clear hs0;have hgx:=(hg.ext hb0).cell 0;have hcx:=hx0.cell;have q2:(Ab c)[2]?=some (.int .i64 c.k):=rfl;go_wp2;go_ret;exact⟨bH (by unfold isK;rfl),hb0⟩
theorem Qd (l:List Cc) (a:Option Addr) (c:Nat) (w:World) (hrd:dN w a (l.flatMap mh)) (hl:l.length≤9223372036854775807) (g:Nat) (kk:Int) (hg:aC w g #[.int .i64 kk] 3) :
  Calls Tryz.prog 113 #[.slice a l.length c,.func (.func 71) #[] #[.pointer (some ⟨g,0,none⟩)]] w fun e w'=>e = .returned (.int .i64 (idx (isK kk) l))∧Below w.heap.size w w':=by
 go_enter func113,ntmps113;go_wp2
 go_loopw [8] (fun i wr => ∃k:Nat,k≤l.length∧i = .int .i64 k∧Below w.heap.size w wr∧∀i (h:i<l.length),i<k→(isK kk) l[i]=false) (fun i _=>l.length-(intOf i).toNat)
 case atStart=>exact⟨0,aS _,rfl,Below.refl _ _,fun i _ h=>absurd h (dO _)⟩
 case round=>
  obtain⟨k,hk,rfl,hbr,hp0⟩:=hrel;have hp:=Lib.hid hp0;clear hp0
  by_cases hlt:k<l.length
  ·obtain⟨b,off,rfl,hel⟩:=yO (hrd.below hbr) k hlt
   go_wp2_with (refine ax _ _ rfl b (off+k*3) rfl rfl _ hel _ underlying106 rfl cached_size ?_)
   refine (La l[k] kk g _ (hg.ext hbr)).mono ?_;rintro e w2 ⟨rfl,hb2⟩;have hbel2:=ae hbr hb2;clear hb2;cases hpk:(isK kk) l[k]
   ·have hpk':=Lib.hid hpk;clear hpk;go_wp2;go_roundw
    case rel=>exact⟨k+1,by omega,by go_num,hbel2,lH hp.out hlt hpk'.out⟩
    case measure=>simp[intOf];omega
   have hfin:=Lib.hid (tH (isK kk) l k hlt hp.out hpk);clear hpk;go_wp2;go_ret;exact⟨aR hfin.out.symm,hbel2⟩
  have hfin:=Lib.hid (kT (isK kk) l fun i h=>hp.out i h (by omega));go_wp2;go_ret;exact⟨aR hfin.out.symm,hbr⟩
theorem QK (l:List Cc) (a:Option Addr) (c:Nat) (w:World) (hrd:dN w a (l.flatMap mh)) (hl:l.length≤9223372036854775807) (g:Nat) (kk:Int) (hg:aC w g #[.int .i64 kk] 3) :
  Calls Tryz.prog 70 #[.slice a l.length c,.func (.func 71) #[] #[.pointer (some ⟨g,0,none⟩)]] w fun e w'=>e = .returned (.bool (l.any (isK kk)))∧Below w.heap.size w w':=by
 go_enter func70,ntmps70
 go_wp2_with fail
 refine (Qd l a c _ hrd hl g kk hg).mono ?_;rintro e w2 ⟨rfl,hb2⟩;go_wp2;go_ret;exact⟨bH (nC _ _),hb2⟩
theorem Jk (l m:List Int) (a a' : Option Addr) (c c' : Nat) (w:World) (hrd:dN w a (l.map fM)) (hrd' : dN w a' (m.map fM)) (hl:l.length≤9223372036854775807) (hl' : m.length≤9223372036854775807) :
  Calls Tryz.prog 72 #[.slice a l.length c,.slice a' m.length c'] w fun e w'=>e = .returned (.bool (l==m))∧Below w.heap.size w w':=by
 go_enter func72,ntmps72
 by_cases hlm:l.length=m.length
 ·have hne:((l.length:Int) != (m.length:Int))=false:=by simp[hlm]
  go_wp2
  go_loopw [13] (fun i wr => ∃k:Nat,k≤l.length∧i = .int .i64 k∧Below w.heap.size w wr∧∀i (h:i<l.length),i<k→l[i]=m[i]'(by omega)) (fun i _=>l.length-(intOf i).toNat)
  case atStart=>exact⟨0,aS _,rfl,Below.refl _ _,fun i _ h=>absurd h (dO _)⟩
  case round=>
   obtain⟨k,hk,rfl,hbel,hp⟩:=hrel
   by_cases hlt:k<l.length
   ·obtain⟨b,off,rfl,hc⟩:=jl (hrd.below hbel) k hlt;obtain⟨b',off',rfl,hc'⟩:=jl (hrd'.below hbel) k (by omega);have k1:(k:Int)<(m.length:Int):=by omega
    go_wp2_with fail
    go_quiet (fail)
    by_cases he:l[k]=m[k]'(by omega)
    ·have hz:(l[k] != m[k]'(by omega))=false:=by simp[he]
     go_wp2;go_roundw
     case rel=>exact⟨k+1,by omega,by go_num,below_drewN hbel _,upto hp hlt he⟩
     case measure=>simp[intOf];omega
    have hz:(l[k] != m[k]'(by omega))=true:=by simp[he]
    go_wp2;go_ret;exact⟨bH (Oh k hlt (by omega) he).symm,below_drewN hbel _⟩
   go_wp2
   all_goals
    go_ret;exact⟨bH (NU hlm fun i h=>hp i h (by omega)).symm,hbel⟩
 have hne:((l.length:Int) != (m.length:Int))=true:=by simp;omega
 go_wp2;go_ret;refine⟨bH ?_,Below.refl _ _⟩;symm;rw[beq_eq_false_iff_ne];rintro rfl;exact hlm rfl
theorem mD (n:Nat) (l:List Int):(ku n l).length=n:=by simp[ku]
theorem nO (n:Nat) (l:List Int) (i:Nat) (hi:i<n):(ku n l)[i]?=some (cnt l i:Int):=by simp[ku,hi]
theorem JH (l:List Int) (k i:Int):cnt (l++[k]) i=cnt l i+(if k=i then 1 else 0):=by
 rw[yV];congr 1;unfold cnt;rw[nP,List.countP_nil]
 by_cases h:k=i
 ·simp[h]
 ·simp[h]
theorem DN (n:Nat) (l:List Int) (k:Nat) (hk:k<n):(ku n l).set k ((cnt l k:Int)+1)=ku n (l++[(k:Int)]):=by
 apply mK;intro i;rw[mf,mD]
 by_cases e:k=i
 ·subst e;rw[if_pos rfl,if_pos hk,nO _ _ _ hk,JH,if_pos rfl];simp
 rw[if_neg e]
 by_cases hi:i<n
 ·rw[nO _ _ _ hi,nO _ _ _ hi,JH,if_neg (by omega)];rfl
 ·rw[dI (by rw[mD];omega),dI (by rw[mD];omega)]
theorem IZ (n:Nat):ku n []=List.replicate n 0:=by
 unfold ku cnt;apply mK;intro i;rw[jM,ny]
 by_cases hi:i<n
 ·rw[sJ hi,if_pos hi];rfl
 ·rw[if_neg hi,dI (by simp;omega)];rfl
theorem Im (l:List Int) (i:Int):cnt l i≤l.length:=vD
def IB (w:World) (g:Nat) (l:List Int):Prop:=aC w g (l.map fM).toArray 3
theorem Ff (n:Nat):madeCells #[.int .i64 0] n=((List.replicate n (0:Int)).map fM).toArray:=by
 apply Array.ext
 ·simp[size_madeCells]
 intro i h1 h2;simp[madeCells,fM,Nat.mod_one]
theorem IB.cell {l:List Int} (h:IB w g l) {v:Int} (hv:l[k]?=some v):w.cell? ⟨g,k,none⟩=some (.int .i64 v):=by
 have:=aC.cell h k;rw[this];simp[hv,fM]
theorem IB.set {l:List Int} {v:Int} (hk:k<l.length):bA (l.map fM).toArray k [.int .i64 v]=((l.set k v).map fM).toArray:=by
 show ((l.map fM).toArray).setIfInBounds k (.int .i64 v)=_;rw[Cs];simp[fM]
theorem xZ {l r:List Int} (h:∀x∈l,x=0):firstE (l++r)=firstE r:=by
 induction l with
 | nil=>rfl
 | cons a l ih=>
  have h0:=h a gL;rw[GD];rw[firstE,h0];simp only[if_true,ne_eq,not_true_eq_false,if_false];exact ih fun x hx=>h x (jg _ hx)
theorem NJ {x:Int} {r:List Int} (h:x≠0):firstE (x::r)=x:=by
 rw[firstE];simp[h]
theorem KH {s:Sp} {n:Int} (hs:m.sp[p]?=some s) (hn:(aN s.tb)[j]?=some n) (h1:∀t∈m.sp.take p,∀i∈aN t.tb,bS m t i=0) (h2:∀i∈(aN s.tb).take j,bS m s i=0) (hne:bS m s n≠0):mo m=bS m s n:=by
 unfold mo;have e1:m.sp=m.sp.take p++s::m.sp.drop (p+1):=by rw[←drop_at hs,qg]
 have e2:aN s.tb=(aN s.tb).take j++n::(aN s.tb).drop (j+1):=by rw[←drop_at hn,qg]
 rw[e1,eT,xZ (fun x hx => ?_),lZ,e2,jf,jC,xZ (fun x hx => ?_),bM,GD,NJ hne]
 ·obtain⟨i,hi,rfl⟩:=ib.1 hx;exact h2 i hi
 obtain⟨t,ht,hx⟩:=jP.1 hx;obtain⟨i,hi,rfl⟩:=ib.1 hx;exact h1 t ht i hi
theorem JK (h:∀t∈m.sp,∀i∈aN t.tb,bS m t i=0):mo m=0:=by
 unfold mo;rw[←mO (m.sp.flatMap _),xZ (fun x hx => ?_)]
 ·rfl
 obtain⟨t,ht,hx⟩:=jP.1 hx;obtain⟨i,hi,rfl⟩:=ib.1 hx;exact h t ht i hi
theorem RU {s:Sp} {n:Int} (h:bS m s n=0):((dG s.tb n).k=2→(dG s.tb n).n<m.sl.length)∧((dG s.tb n).k≠2→(dG s.tb n).n<m.m.fs.length):=by
 unfold bS at h;split at h
 ·cases h
 simp only at h;split at h
 ·rename_i h2;split at h
  ·cases h
  rename_i h3;exact⟨fun _=>by omega,fun h'=>absurd h2 h'⟩
 rename_i h2;split at h
 ·cases h
 ·exact⟨fun h'=>absurd h' h2,fun _=>by omega⟩
def lG (m:Ma) (p:Nat) (l:List Int):List Int:=m.ca.map Cc.k++(m.sp.take p).flatMap (fun s=>nA s.tb (aN s.tb))++l
def jQ (m:Ma) (p:Nat) (l:List Int):List Int:=(m.sp.take p).flatMap (fun s=>swapT s.tb (aN s.tb))++l
theorem NI (t:Tb) (l:List Int) (n:Int):nA t (l++[n])=nA t l++(if (dG t n).k=1 then [(dG t n).n] else []):=by
 unfold nA;rw[qm,jf];congr 1
 by_cases h:(dG t n).k=1
 ·simp[h]
 ·simp[h]
theorem Oj (t:Tb) (l:List Int) (n:Int):swapT t (l++[n])=swapT t l++(if (dG t n).k=1 then [] else [(dG t n).n]):=by
 unfold swapT;rw[qm,jf];congr 1
 by_cases h:(dG t n).k=1
 ·simp[h]
 ·simp[h]
theorem LJ {s:Sp} (hs:m.sp[p]?=some s):lG m p (nA s.tb (aN s.tb))=lG m (p+1) []:=by
 unfold lG;rw[take_at hs,eT,mO,jC];simp
theorem Jn {s:Sp} (hs:m.sp[p]?=some s):jQ m p (swapT s.tb (aN s.tb))=jQ m (p+1) []:=by
 unfold jQ;rw[take_at hs,eT,mO];simp
theorem OZ (m:Ma):lG m m.sp.length []=qQ m:=by unfold lG qQ;rw[yY,mO]
theorem Mt (m:Ma):jQ m m.sp.length []=pG m:=by unfold jQ pG;rw[yY,mO]
theorem Mi (m:Ma) (p:Nat) (l:List Int) (k:Int):lG m p (l++[k])=lG m p l++[k]:=by unfold lG;rw[jC,jC,jC]
theorem Jg (m:Ma) (p:Nat) (l:List Int) (k:Int):jQ m p (l++[k])=jQ m p l++[k]:=by unfold jQ;rw[jC]
theorem AR (t:Tb) (l:List Int):(nA t l).length≤l.length:=by unfold nA;rw[fe];exact yM _ _
theorem FW (t:Tb) (l:List Int):(swapT t l).length≤l.length:=by unfold swapT;rw[fe];exact yM _ _
theorem flat_len {α:Type} (g:α→List Int) (c:Nat) (h:∀x,(g x).length≤c):∀l:List α,(l.flatMap g).length≤c*l.length
 | []=>by simp
 | x::l=>by have h1:=flat_len g c h l;have h2:=h x;rw[lZ,jG,oh,Nat.mul_succ];omega
theorem uM (t:Tb):(aN t).length≤64:=qY t 64
theorem NN (m:Ma) (p:Nat) (l:List Int):(lG m p l).length≤m.ca.length+64*m.sp.length+l.length:=by
 unfold lG;have h1:=flat_len (fun s:Sp=>nA s.tb (aN s.tb)) 64 (fun s=>aX (AR _ _) (uM _)) (m.sp.take p);have h2:(m.sp.take p).length≤m.sp.length:=by rw[kK];omega
 simp only[jG,fe];omega
theorem PI (h:vG m) (p:Nat) (l:List Int) (K:Int):cnt (lG m p l) K≤1+64*m.sp.length+l.length:=by
 unfold lG;rw[yV,yV];have h1:=flat_len (fun s:Sp=>nA s.tb (aN s.tb)) 64 (fun s=>aX (AR _ _) (uM _)) (m.sp.take p);have h2:(m.sp.take p).length≤m.sp.length:=by rw[kK];omega
 have h3:cnt (m.ca.map Cc.k) K=wy m K:=by unfold cnt wy;rw[vI];rfl
 have h4:=Sa h K;have h5:=Im ((m.sp.take p).flatMap fun s=>nA s.tb (aN s.tb)) K;have h6:=Im l K;omega
theorem Mk (m:Ma) (p:Nat) (l:List Int):(jQ m p l).length≤64*m.sp.length+l.length:=by
 unfold jQ;have h1:=flat_len (fun s:Sp=>swapT s.tb (aN s.tb)) 64 (fun s=>aX (FW _ _) (uM _)) (m.sp.take p);have h2:(m.sp.take p).length≤m.sp.length:=by rw[kK];omega
 simp only[jG];omega
theorem Nt (w:World) (c1 c2:Array Value) (T1 T2:TypeId):Below w.heap.size w ((w.alloc (.cells c1 T1)).alloc (.cells c2 T2)).drew∧aC ((w.alloc (.cells c1 T1)).alloc (.cells c2 T2)).drew w.heap.size c1 T1∧aC ((w.alloc (.cells c1 T1)).alloc (.cells c2 T2)).drew (w.heap.size+1) c2 T2:=by
 have e:(w.alloc (.cells c1 T1)).heap.size=w.heap.size+1:=zO _;have h1:Below w.heap.size w ((w.alloc (.cells c1 T1)).alloc (.cells c2 T2)):=((Below.refl _ _).alloc (ay _) _).alloc (by omega) _;have h2:aC ((w.alloc (.cells c1 T1)).alloc (.cells c2 T2)) w.heap.size c1 T1:=(aC.new w c1 T1).ext ((Below.refl _ _).alloc (ay _) _);have h3:aC ((w.alloc (.cells c1 T1)).alloc (.cells c2 T2)) (w.heap.size+1) c2 T2:=by rw[←e];exact aC.new _ _ _
 exact⟨⟨h1.os,h1.tape,h1.output,h1.size,h1.block⟩,h2,h3⟩
theorem int_one:(Tryz.prog.info? 3).map (·.size)=some 1:=by kernel_rfl
theorem int_inf:(Tryz.prog.info? 3).map (fun i=>(i.zero,i.size,i.bytes))=some (some (.int .i64 0),1,8):=by kernel_rfl
theorem Dp {y:Operand} {k:IntKind} (ho:o.op = .indexAddr t x y) (hx:ρ x = .slice (some ⟨b,0,none⟩) n c) (hy:ρ y = .int k (i:Int)) (hi:i<n)
 (hu:P.underlying t=some (.slice e)) (hs:(P.info? e).map (·.size)=some 1):(execOp ρ o).run P w = .ok (.value (.pointer (some ⟨b,i,none⟩))) w:=by
 have:=bv (w:=w) ho hx hy hi hu hs;rw[this];simp
def Ew (m:Ma) (i:Nat):Bool:=decide ((rA m i).r=cnt (qQ m) i)&&(decide ((rA m i).f<0)||m.ca.any fun c=>decide (c.k=i))
theorem Jq (m:Ma):countB m=((List.range m.m.fs.length).all (Ew m)&&decide (m.sl=ku m.sl.length (pG m))):=rfl
theorem Kc (h:countB m=true) (k:Nat) (hk:k<m.m.fs.length):Ew m k=true:=by
 rw[Jq,dS,dL] at h;exact h.1 k (dE.2 hk)
theorem pu (H:MH) (w:World) (h:BF w H) :
  Calls Tryz.prog 37 #[.agg (dD H)] w fun r w'=>r = .returned (.int .i64 (jK H.ma))∧Below w.heap.size w w':=by
 have hmx:H.m.fs.length*8≤281474976710656∧H.sl.length*8≤281474976710656∨¬gU H.ma=0:=by
  by_cases e:gU H.ma=0
  ·have hp:=(vR.1 e).1;have h1:=((eD _).1 hp.fr).1;have h2:=iT hp.sl;have h1' : H.m.fs.length≤40:=h1;have h2' : H.sl.length≤60:=h2;exact .inl ⟨by omega,by omega⟩
  ·exact .inr e
 go_enter func37,ntmps37;go_upto_region 1 with (fail);refine gI (fun W=>Code.wp _ _ _ _ W) fun w1 hb1 bx1 hs1 => ?_;have h1:=h.below hb1;have bx:aC w1 w.heap.size (dD H) 41:=bx1;clear bx1 hs1
 go_wp2_with fail
 refine (Od H w.heap.size _ bx h1).mono ?_;rintro r w2 ⟨rfl,hb2⟩;have hbr2:=ae hb1 hb2;have bx2:=bx.ext hb2;clear bx h1 hb1 hb2
 by_cases e1:gU H.ma=0
 rotate_left
 ·have hq:Hid (jK H.ma=gU H.ma):=Lib.hid (by unfold jK;rw[if_pos e1]);generalize gU H.ma=E at *
  go_wp2;go_ret;rw[hq.out];exact⟨rfl,hbr2⟩
 rw[e1]
 go_wp2_with fail
 refine (Lg H w.heap.size _ bx2 (h.below hbr2)).mono ?_;rintro r w3 ⟨rfl,hb3⟩;have hbr3:=ae hbr2 hb3;have bx3:=bx2.ext hb3;clear bx2 hbr2 hb3
 by_cases e2:cachedE H.ma=0
 rotate_left
 ·have hq:Hid (jK H.ma=cachedE H.ma):=Lib.hid (by unfold jK;rw[if_neg (by rw[e1];simp),if_pos e2]);generalize cachedE H.ma=E at *
  go_wp2;go_ret;rw[hq.out];exact⟨rfl,hbr3⟩
 rw[e2];have hPt:=(vR.1 e1).1;have n1:H.m.fs.length≤40:=((eD _).1 hPt.fr).1;have n2:H.sl.length≤60:=iT hPt.sl;have n3:H.sp.length≤4:=by have:=hPt.spl;rw[CR] at this;exact this
 have hPt':=Lib.hid hPt;have hcaL:=Lib.hid (zq.1 e2);have hwr:Hid (jK H.ma=if mo H.ma≠0 then mo H.ma else if countB H.ma=true then 0 else 7):=Lib.hid (by unfold jK;rw[if_neg (by rw[e1];simp),if_neg (by rw[e2];simp)]);clear e1 e2 hPt hmx;go_upto_region 7 with (fail);have hcb:=bx3.cell;unfold dD at hcb;have hcb2:=fun ob=>(bx3.ext ((Below.refl _ _).alloc (ay _) ob)).cell;unfold dD at hcb2;have hmk1:=run_make_row' (P:=Tryz.prog) 29 3 (.int .i64 0) 8 underlying29 int_inf rfl .i64 .i64 H.m.fs.length (by omega) (by omega);have hmk2:=run_make_row' (P:=Tryz.prog) 29 3 (.int .i64 0) 8 underlying29 int_inf rfl .i64 .i64 H.sl.length (by omega) (by omega)
 go_cut [5,6] (fun s5 s6 wx => ∃gh gs,s5 = .slice (some ⟨gh,0,none⟩) H.m.fs.length H.m.fs.length∧s6 = .slice (some ⟨gs,0,none⟩) H.sl.length H.sl.length∧gh≠gs∧w3.heap.size≤gh∧w3.heap.size≤gs∧Below w3.heap.size w3 wx∧aC wx gh (madeCells #[.int .i64 0] H.m.fs.length) 3∧aC wx gs (madeCells #[.int .i64 0] H.sl.length) 3)
 case first=>
  go_region
  all_goals (go_wp2_with fail;go_meet)
  ·obtain⟨z1,z2,z3⟩:=Nt w3 (madeCells #[.int .i64 0] H.m.fs.length) (madeCells #[.int .i64 0] H.sl.length) 3 3;exact⟨_,_,rfl,rfl,by omega,by omega,by omega,z1,z2,z3⟩
  obtain⟨z1,z2,z3⟩:=Nt w3 (madeCells #[.int .i64 0] H.sl.length) (madeCells #[.int .i64 0] H.m.fs.length) 3 3;exact⟨_,_,rfl,rfl,by omega,by omega,by omega,z1,z3,z2⟩
 case rest=>
  obtain⟨gh,gs,rfl,rfl,hne,hgh,hgs,hb4,hIh,hIs⟩:=hcut;have hbr4:=ae hbr3 hb4;have bx4:=bx3.ext hb4;have hwh:w.heap.size≤gh:=aX hbr3.size hgh;have hws:w.heap.size≤gs:=aX hbr3.size hgs;have hbh:w.heap.size≠gh:=by have:=bx3.lt;omega
  have hbs:w.heap.size≠gs:=by have:=bx3.lt;omega
  have hIh4:IB wc gh (ku H.m.fs.length ((H.ca.take 0).map Cc.k)):=by rw[List.take_zero,bN,IZ];unfold IB;rw[←Ff];exact hIh
  have hIs4:IB wc gs (ku H.sl.length []):=by rw[IZ];unfold IB;rw[←Ff];exact hIs
  clear hcb hcb2 hmk1 hmk2 hIh hIs hb4 bx3 hbr3 hgh hgs;have hcb:=bx4.cell;unfold dD at hcb;go_upto_region 9 with (fail);clear hcb;have hcl:=h.ca.le;have hcm:=h.ca.mx;unfold maxLen at hcm
  go_loopw [37] (fun i wr => ∃(k:Nat),k≤H.ca.length∧i = .int .i64 k∧Below w.heap.size w wr∧aC wr w.heap.size (dD H) 41∧IB wr gh (ku H.m.fs.length ((H.ca.take k).map Cc.k))∧IB wr gs (ku H.sl.length [])) (fun i _=>H.ca.length-(intOf i).toNat)
  case atStart=>exact⟨0,aS _,rfl,hbr4,bx4,hIh4,hIs4⟩
  case round=>
   clear hbr4 bx4 hIh4 hIs4;obtain⟨k,hk,rfl,hbr,bx,hIh,hIs⟩:=hrel
   by_cases hkl:k<H.ca.length
   ·obtain⟨bc,oc,hac,hrd⟩:=jH oV (by decide) (h.below hbr).ca.rd k hkl;have hki:(k:Int)<(H.ca.length:Int):=by omega
    have hclt:0≤H.ca[k].k∧H.ca[k].k<H.m.fs.length:=hcaL.out.lt _ (dP hkl);have htk:Hid ((H.ca.take (k+1)).map Cc.k=(H.ca.take k).map Cc.k++[H.ca[k].k]):=Lib.hid (by rw[take_at (aG hkl),jf];rfl);have hll:((H.ca.take k).map Cc.k).length≤k:=by rw[fe,kK];omega
    generalize H.ca[k]=c at *
    obtain⟨K,hcK⟩:∃K:Nat,c.k=K:=⟨c.k.toNat,by omega⟩;have hKl:K<H.m.fs.length:=by omega
    rw[hcK] at htk;rw[hac];generalize (H.ca.take k).map Cc.k=L at *
    go_wp2_with (first | (refine ax _ _ rfl bc (oc+k*3) rfl rfl _ hrd _ underlying106 rfl cached_size ?_) | (refine aI rfl _ _ _ rfl (Ab c) rfl rfl rfl cached_size (vB c) ?_))
    intro w5 hb5 cx;have hbr5:=ae hbr hb5;have bx5:=bx.ext hb5;have hIh5:IB w5 gh (ku H.m.fs.length L):=hIh.ext hb5;have hIs5:IB w5 gs (ku H.sl.length []):=hIs.ext hb5;clear hbr bx hIh hIs hrd hb5;have hcc:=cx.cell;unfold Ab at hcc;rw[hcK] at hcc;have hce:=hIh5.cell (nO H.m.fs.length L K hKl);have hcl2:=Im L K;have hw1:IntKind.i64.wrap ((cnt L K:Int)+1)=(cnt L K:Int)+1:=bJ _ (by omega);have hKi:(K:Int)<(H.m.fs.length:Int):=by omega
    go_wp2_with (refine aA rfl _ _ _ rfl gh K _ [.int .i64 ((cnt L K:Int)+1)] rfl rfl rfl _ _ hIh5 (by simp[mD];omega) int_one (fun u hu=>by cases bq.1 hu;rfl) ?_)
    intro w6 hb6 hg6;rw[IB.set (by rw[mD];exact hKl),DN _ _ _ hKl,←htk.out] at hb6;have hbr6:=hbr5.grown hg6 hbr5.size (fun k hk=>by cases hk;exact hwh);have bx6:=bx5.grown hg6 (fun e=>hbh (aJ e).symm);have hIs6:IB w6 gs (ku H.sl.length []):=aC.grown hIs5 hg6 (fun e=>hne (aJ e));clear hbr5 bx5 hIs5 hIh5 hcc hce cx hg6 hw1;go_wp2;go_roundw
    case rel=>exact⟨k+1,by omega,by go_num,hbr6,bx6,hb6,hIs6⟩
    case measure=>simp[intOf];omega
   have hki:¬(k:Int)<(H.ca.length:Int):=by omega
   rw[iF (by omega)] at hIh;have hIh0:IB wr gh (ku H.m.fs.length (lG H.ma 0 [])):=by
    have e:lG H.ma 0 []=H.ca.map Cc.k:=by show H.ca.map Cc.k++[]++[]=_;rw[mO,mO]
    rw[e];exact hIh
   have hIs0:IB wr gs (ku H.sl.length (jQ H.ma 0 [])):=hIs;clear hIh hIs;have hcb:=bx.cell;unfold dD at hcb;go_upto_region 14 with (fail);clear hcb
   go_loopw [52] (fun i wr => ∃(p:Nat),p≤H.sp.length∧i = .int .i64 p∧Below w.heap.size w wr∧aC wr w.heap.size (dD H) 41∧IB wr gh (ku H.m.fs.length (lG H.ma p []))∧IB wr gs (ku H.sl.length (jQ H.ma p []))∧Hid (∀t∈H.ma.sp.take p,∀i∈aN t.tb,bS H.ma t i=0)) (fun i _=>H.sp.length-(intOf i).toNat)
   case atStart=>exact⟨0,aS _,rfl,hbr,bx,hIh0,hIs0,Lib.hid fun t ht=>by simp at ht⟩
   case round=>
    clear hbr bx hIh0 hIs0;obtain⟨p,hp,rfl,hbr,bx,hIh,hIs,hz⟩:=hrel
    by_cases hpl:p<H.sp.length
    ·obtain⟨bs,os,P,hap,hP,hrd⟩:=xH (h.below hbr).sp.rd p hpl;have hgood:=wJ (h.below hbr) hP;have hpi:(p:Int)<(H.sp.length:Int):=by omega
     have hsP:H.ma.sp[p]?=some P.sp:=by show (H.sp.map PS.sp)[p]?=_;rw[jM,hP];rfl
     have harE:(bG P.ar).1=0:=hPt'.out.ar P.sp (bQ hsP);have htbE:cK P.tb=0:=hPt'.out.tb P.sp (bQ hsP);have hsP':=Lib.hid hsP;have hPq:=Lib.hid hP;have hcb:=bx.cell;unfold dD at hcb;rw[hap] at hcb;clear hsP hP
     go_wp2_with (refine ax _ _ rfl bs (os+p*10+2) rfl rfl _ (uz hrd 2 8) _ underlying53 tab_agg tab_size ?_)
     refine (xU P.tb (ng P.ts) _ hgood.tb).mono ?_;rintro r w5 ⟨v5,rfl,ho5,hb5⟩;obtain⟨a5,c5,rfl,hle5,hmx5,_,hr5⟩:=ho5.rd;have hlt5:gh<wr.heap.size∧gs<wr.heap.size:=⟨aC.lt hIh,aC.lt hIs⟩;have hbr5:=ae hbr hb5;have bx5:=bx.ext hb5;have hIh5:IB w5 gh (ku H.m.fs.length (lG H.ma p (nA P.tb ((aN P.tb).take 0)))):=hIh.ext hb5;have hIs5:IB w5 gs (ku H.sl.length (jQ H.ma p (swapT P.tb ((aN P.tb).take 0)))):=hIs.ext hb5;have hrd5:=hrd.below hb5;have hg5:=hgood.below hb5;have hwrs:=Lib.hid hlt5;clear hcb hbr bx hIh hIs hrd hgood hb5 hr5;have hpin:=Lib.hid (RJ P.tb);have hpl64:=uM P.tb;go_upto_region 18 with (fail)
     go_loopw [65] (fun i wr' => ∃(j:Nat),j≤(aN P.tb).length∧i = .int .i64 j∧Below w.heap.size w wr'∧aC wr' w.heap.size (dD H) 41∧IB wr' gh (ku H.m.fs.length (lG H.ma p (nA P.tb ((aN P.tb).take j))))∧IB wr' gs (ku H.sl.length (jQ H.ma p (swapT P.tb ((aN P.tb).take j))))∧Own wr' wr.heap.size 3 1 (.slice a5 (aN P.tb).length c5) (aN P.tb).length ((aN P.tb).map fM)∧dN wr' (some ⟨bs,os+p*10,none⟩) (tF P)∧P.good wr'∧Hid (∀i∈(aN P.tb).take j,bS H.ma P.sp i=0)) (fun i _=>(aN P.tb).length-(intOf i).toNat)
     case atStart=>exact⟨0,aS _,rfl,hbr5,bx5,hIh5,hIs5,ho5,hrd5,hg5,Lib.hid fun i hi=>by simp at hi⟩
     case round=>
      clear hbr5 bx5 hIh5 hIs5 ho5 hrd5 hg5;obtain⟨j,hj,rfl,hbr,bx,hIh,hIs,ho,hrd,hgood,hz2⟩:=hrel;obtain⟨hgl,hsl⟩:=hwrs.out
      by_cases hjl:j<(aN P.tb).length
      ·have hji:(j:Int)<((aN P.tb).length:Int):=by omega
       obtain⟨_,_,e9,_,_,_,hrL⟩:=ho.rd;cases e9;have hnj:(aN P.tb)[j]?=some (aN P.tb)[j]:=aG hjl;have hnb:=hpin.out _ (dP hjl);have hnk:(dG P.tb (aN P.tb)[j]).k≠0:=(oz.1 (dP hjl)).2;obtain⟨bp,op,hpa,hcn⟩:=jl hrL j hjl;generalize hN:(aN P.tb)[j]=n at *
       have htk:Hid ((aN P.tb).take (j+1)=(aN P.tb).take j++[n]):=Lib.hid (take_at hnj);have hnj':=Lib.hid hnj;have hpaQ:=Lib.hid hpa;have hent:=(dw _).1 (qU htbE n);rw[hpa];clear hnj hN hrL
       go_wp2_with fail
       refine (LC H P n w.heap.size bs (os+p*10) _ bx (h.below hbr) hrd hgood harE htbE hnb).mono ?_;rintro r w6 ⟨rfl,hb6⟩;have hbr6:=ae hbr hb6;have bx6:=bx.ext hb6;have hIh6:=aC.ext hIh hb6;have hIs6:=aC.ext hIs hb6;have ho6:=ho.below hb6;have hrd6:=hrd.below hb6;have hg6:=hgood.below hb6;clear hbr bx hIh hIs ho hrd hgood hb6 hcn
       by_cases hE:bS H.ma P.sp n=0
       rotate_left
       ·have hq:Hid (jK H.ma=bS H.ma P.sp n):=Lib.hid (by have:=KH hsP'.out hnj'.out hz.out hz2.out hE;rw[hwr.out,this,if_pos hE]);generalize bS H.ma P.sp n=E at *
        go_wp2;go_ret;rw[hq.out];exact⟨rfl,hbr6⟩
       have hlt:=RU hE;have hz3:Hid (∀i∈(aN P.tb).take (j+1),bS H.ma P.sp i=0):=Lib.hid fun i hi=>by
        rw[htk.out] at hi;rcases fJ.1 hi with hi|hi
        ·exact hz2.out i hi
        ·rw[bq.1 hi];exact hE
       rw[hE];clear hz2 hE
       go_wp2_with (refine ax _ _ rfl bs (os+p*10+2) rfl rfl _ (uz hrd6 2 8) _ underlying53 tab_agg tab_size ?_)
       refine (zX P.tb (ng P.ts) n _ hg6.tb).mono ?_;rintro r w7 ⟨rfl,hb7⟩;have hlt2:((dG P.tb n).k=2→(dG P.tb n).n<H.sl.length)∧((dG P.tb n).k≠2→(dG P.tb n).n<H.m.fs.length):=hlt;have hpS:nA P.tb ((aN P.tb).take (j+1))=nA P.tb ((aN P.tb).take j)++(if (dG P.tb n).k=1 then [(dG P.tb n).n] else []):=by rw[htk.out,NI]
       have hsS:swapT P.tb ((aN P.tb).take (j+1))=swapT P.tb ((aN P.tb).take j)++(if (dG P.tb n).k=1 then [] else [(dG P.tb n).n]):=by rw[htk.out,Oj]
       have hl1:=NN H.ma p (nA P.tb ((aN P.tb).take j));have hl1b:=AR P.tb ((aN P.tb).take j);have hl2:=Mk H.ma p (swapT P.tb ((aN P.tb).take j));have hl2b:=FW P.tb ((aN P.tb).take j);have hl3:((aN P.tb).take j).length≤64:=by rw[kK];omega
       have hl4:H.ma.ca.length=H.ca.length:=rfl;have hl5:H.ma.sp.length=H.sp.length:=CR H;generalize dG P.tb n=e at *
       generalize nA P.tb ((aN P.tb).take j)=L1 at *
       generalize swapT P.tb ((aN P.tb).take j)=L2 at *
       have hpS':=Lib.hid hpS;have hsS':=Lib.hid hsS;clear hlt hpS hsS;have hbr7:=ae hbr6 hb7;have bx7:=bx6.ext hb7;have hIh7:=aC.ext hIh6 hb7;have hIs7:=aC.ext hIs6 hb7;have ho7:=ho6.below hb7;have hrd7:=hrd6.below hb7;have hg7:=hg6.below hb7;clear hbr6 bx6 hIh6 hIs6 ho6 hrd6 hg6 hb7
       go_wp2_with (refine aI rfl _ _ _ rfl (jk e) rfl rfl rfl entry_size (by simp[jk,Value.oneCell']) ?_)
       intro w8 hb8 ex;have hbr8:=ae hbr7 hb8;have bx8:=bx7.ext hb8;have hIh8:IB w8 gh _:=aC.ext hIh7 hb8;have hIs8:IB w8 gs _:=aC.ext hIs7 hb8;have ho8:=ho7.below hb8;have hrd8:=hrd7.below hb8;have hg8:=hg7.below hb8;clear hbr7 bx7 hIh7 hIs7 ho7 hrd7 hg7 hb8;have hce:=ex.cell;unfold jk at hce
       by_cases hk1:e.k=1
       ·obtain⟨K,hK⟩:∃K:Nat,e.n=K:=⟨e.n.toNat,by omega⟩;have hKl:K<H.m.fs.length:=by have:=hlt2.2 (by omega);omega
        have hpS2:=hpS'.out;have hsS2:=hsS'.out;rw[if_pos hk1,hK] at hpS2;rw[if_pos hk1,mO] at hsS2;rw[hk1,hK] at hce;have hcx:=hIh8.cell (nO H.m.fs.length (lG H.ma p L1) K hKl);have hcl2:=PI hcaL.out p L1 K;have hw1:IntKind.i64.wrap ((cnt (lG H.ma p L1) K:Int)+1)=(cnt (lG H.ma p L1) K:Int)+1:=bJ _ (by omega);have hKi:(K:Int)<(H.m.fs.length:Int):=by omega
        have hpS3:=Lib.hid hpS2;have hsS3:=Lib.hid hsS2;clear hpS2 hsS2 hlt2 hk1 hnk hent hK
        go_wp2_with (refine aA rfl _ _ _ rfl gh K _ [.int .i64 ((cnt (lG H.ma p L1) K:Int)+1)] rfl rfl rfl _ _ hIh8 (by simp[mD];omega) int_one (fun u hu=>by cases bq.1 hu;rfl) ?_)
        intro w9 hb9 hg9;rw[IB.set (by rw[mD];exact hKl),DN _ _ _ hKl,←Mi,←hpS3.out] at hb9;rw[←hsS3.out] at hIs8;have hbr9:=hbr8.grown hg9 hbr8.size (fun k hk=>by cases hk;exact hwh);have bx9:=bx8.grown hg9 (fun e=>hbh (aJ e).symm);have hIs9:IB w9 gs _:=aC.grown hIs8 hg9 (fun e=>hne (aJ e));have hr9:BF w9 H:=h.below hbr9;obtain⟨bs',os',P',hap',hP',hrd9'⟩:=xH hr9.sp.rd p hpl;have hPP:P' = P:=by have h2:H.ma.sp[p]?=some P.sp:=hsP'.out;rw[hPq.out] at hP';exact (aJ hP').symm
        subst hPP;rw[hap] at hap';cases hap';have hg9':=hr9.ps P' (bQ hP');have ho9:=ho8.grown hg9 (fun g hv e=>by have:=ho8.ge g hv;have e2:=aJ e;omega);clear hbr8 bx8 hIs8 hIh8 hce ex hg9 hw1 hcx ho8 hrd8 hg8 hr9;go_wp2;go_roundw
        case rel=>exact⟨j+1,by omega,by go_num,hbr9,bx9,hb9,hIs9,by rw[←hpaQ.out];exact ho9,hrd9',hg9',hz3⟩
        case measure=>simp[intOf];omega
       obtain⟨K,hK⟩:∃K:Nat,e.n=K:=⟨e.n.toNat,by omega⟩;have hk2:e.k=2:=by omega
       have hKl:K<H.sl.length:=by have:=hlt2.1 hk2;omega
       have hpS2:=hpS'.out;have hsS2:=hsS'.out;rw[if_neg hk1,mO] at hpS2;rw[if_neg hk1,hK] at hsS2;rw[hk2,hK] at hce;have hcx:=hIs8.cell (nO H.sl.length (jQ H.ma p L2) K hKl);have hcl2:=Im (jQ H.ma p L2) K;have hw1:IntKind.i64.wrap ((cnt (jQ H.ma p L2) K:Int)+1)=(cnt (jQ H.ma p L2) K:Int)+1:=bJ _ (by omega);have hKi:(K:Int)<(H.sl.length:Int):=by omega
       have hpS3:=Lib.hid hpS2;have hsS3:=Lib.hid hsS2;clear hpS2 hsS2 hlt2 hk1 hk2 hnk hent hK
       go_wp2_with (refine aA rfl _ _ _ rfl gs K _ [.int .i64 ((cnt (jQ H.ma p L2) K:Int)+1)] rfl rfl rfl _ _ hIs8 (by simp[mD];omega) int_one (fun u hu=>by cases bq.1 hu;rfl) ?_)
       intro w9 hb9 hg9;rw[IB.set (by rw[mD];exact hKl),DN _ _ _ hKl,←Jg,←hsS3.out] at hb9;rw[←hpS3.out] at hIh8;have hbr9:=hbr8.grown hg9 hbr8.size (fun k hk=>by cases hk;exact hws);have bx9:=bx8.grown hg9 (fun e=>hbs (aJ e).symm);have hIh9:IB w9 gh _:=aC.grown hIh8 hg9 (fun e=>hne (aJ e).symm);have hr9:BF w9 H:=h.below hbr9;obtain⟨bs',os',P',hap',hP',hrd9'⟩:=xH hr9.sp.rd p hpl;have hPP:P' = P:=by have h2:H.ma.sp[p]?=some P.sp:=hsP'.out;rw[hPq.out] at hP';exact (aJ hP').symm
       subst hPP;rw[hap] at hap';cases hap';have hg9':=hr9.ps P' (bQ hP');have ho9:=ho8.grown hg9 (fun g hv e=>by have:=ho8.ge g hv;have e2:=aJ e;omega);clear hbr8 bx8 hIs8 hIh8 hce ex hg9 hw1 hcx ho8 hrd8 hg8 hr9;go_wp2;go_roundw
       case rel=>exact⟨j+1,by omega,by go_num,hbr9,bx9,hIh9,hb9,by rw[←hpaQ.out];exact ho9,hrd9',hg9',hz3⟩
       case measure=>simp[intOf];omega
      have hji:¬(j:Int)<((aN P.tb).length:Int):=by omega
      rw[iF (by omega)] at hIh hIs hz2;have hIh2:IB wr gh (ku H.m.fs.length (lG H.ma (p+1) [])):=by rw[←LJ hsP'.out];exact hIh
      have hIs2:IB wr gs (ku H.sl.length (jQ H.ma (p+1) [])):=by rw[←Jn hsP'.out];exact hIs
      have hz3:Hid (∀t∈H.ma.sp.take (p+1),∀i∈aN t.tb,bS H.ma t i=0):=Lib.hid fun t ht i hi=>by
       rw[take_at hsP'.out] at ht;rcases fJ.1 ht with ht|ht
       ·exact hz.out t ht i hi
       rw[bq.1 ht] at hi ⊢;exact hz2.out i hi
      clear hIh hIs ho hrd hgood hz hz2;go_wp2;go_roundw
      case rel=>
       refine⟨_,_,_,_,_,_,.int .i64 ((p:Int)+1),⟨p+1,by omega,?_,hIh2,hIs2,hz3⟩,rfl,rfl,rfl,rfl,rfl,rfl,rfl⟩;go_num
      case measure=>simp[intOf];omega
    have hpi:¬(p:Int)<(H.sp.length:Int):=by omega
    have hpe:p=H.ma.sp.length:=by rw[CR];omega
    rw[hpe,OZ] at hIh;rw[hpe,Mt] at hIs;rw[hpe,yY] at hz;have hwr2:Hid (jK H.ma=if countB H.ma=true then 0 else 7):=Lib.hid (by rw[hwr.out,if_neg (by rw[JK hz.out];simp)]);clear hz hwr hpe;have hcb:=bx.cell;unfold dD at hcb;go_upto_region 30 with (fail);clear hcb
    go_loopw [104] (fun i wr => ∃(k:Nat),k≤H.m.fs.length∧i = .int .i64 k∧Below w.heap.size w wr∧aC wr w.heap.size (dD H) 41∧IB wr gh (ku H.m.fs.length (qQ H.ma))∧IB wr gs (ku H.sl.length (pG H.ma))∧Hid (∀i,i<k→Ew H.ma i=true)) (fun i _=>H.m.fs.length-(intOf i).toNat)
    case atStart=>exact⟨0,aS _,rfl,hbr,bx,hIh,hIs,Lib.hid fun i hi=>absurd hi (dO _)⟩
    case round=>
     clear hbr bx hIh hIs;obtain⟨k,hk,rfl,hbr,bx,hIh,hIs,hz3⟩:=hrel
     by_cases hkl:k<H.m.fs.length
     ·obtain⟨bg,og,haf,hrd⟩:=jH eZ (by decide) (h.below hbr).fr.rd k hkl;have hki:(k:Int)<(H.m.fs.length:Int):=by omega
      have hxf:H.m.fs[k]=aT H.ma k:=by have:=xN (m:=H.ma) (f:=k) hkl;have h2:H.m.fs[k]?=some (aT H.ma k):=this;rw[aG hkl] at h2;exact aJ h2
      rw[hxf] at hrd;have hcd:Hid (Ew H.ma k=(decide ((aT H.ma k).r=cnt (qQ H.ma) k)&&(decide ((aT H.ma k).f<0)||H.ca.any (isK (k:Int))))):=Lib.hid rfl;generalize aT H.ma k=x at *
      rw[haf];clear hxf;obtain⟨gi,hgi⟩:∃g,g=wr.heap.size:=⟨_,rfl⟩;go_upto_region 31 with (fail);have hgl:gh<wr.heap.size∧gs<wr.heap.size:=⟨aC.lt hIh,aC.lt hIs⟩;have hbl:=bx.lt;have hbA:Below wr.heap.size wr ((wr.alloc (.cells #[.int .i64 0] 3)).alloc (.cells #[.int .u8 0,.int .u8 0,.int .u8 0,.int .u8 0,.int .u8 0,.int .u8 0,.int .u8 0,.int .u8 0,.int .i64 0,.bool false,.bool false,.int .i64 0,.int .i64 0] 81)):=((Below.refl _ _).alloc (ay _) _).alloc (by rw[show (wr.alloc (.cells #[.int .i64 0] 3)).heap.size=wr.heap.size+1 from zO _];omega) _;have e1:(wr.alloc (.cells #[.int .i64 0] 3)).heap.size=wr.heap.size+1:=zO _;have hB1:aC ((wr.alloc (.cells #[.int .i64 0] 3)).alloc (.cells #[.int .u8 0,.int .u8 0,.int .u8 0,.int .u8 0,.int .u8 0,.int .u8 0,.int .u8 0,.int .u8 0,.int .i64 0,.bool false,.bool false,.int .i64 0,.int .i64 0] 81)) wr.heap.size #[.int .i64 0] 3:=(aC.new wr _ _).ext ((Below.refl _ _).alloc (ay _) _);have hB2:aC ((wr.alloc (.cells #[.int .i64 0] 3)).alloc (.cells #[.int .u8 0,.int .u8 0,.int .u8 0,.int .u8 0,.int .u8 0,.int .u8 0,.int .u8 0,.int .u8 0,.int .i64 0,.bool false,.bool false,.int .i64 0,.int .i64 0] 81)) (wr.heap.size+1) #[.int .u8 0,.int .u8 0,.int .u8 0,.int .u8 0,.int .u8 0,.int .u8 0,.int .u8 0,.int .u8 0,.int .i64 0,.bool false,.bool false,.int .i64 0,.int .i64 0] 81:=by rw[←e1];exact aC.new _ _ _
      go_wp2_with (first | (refine ax _ _ rfl bg (og+k*13) rfl rfl _ hrd _ underlying81 rfl frame_size ?_) | (refine aA rfl _ _ _ rfl wr.heap.size 0 _ [.int .i64 (k:Int)] rfl rfl rfl _ _ hB1 (by show 0+1≤1;decide) int_one (fun u hu=>by cases bq.1 hu;rfl) ?_))
      intro w5 hb5 hg5;have hb5' : aC w5 wr.heap.size #[.int .i64 (k:Int)] 3:=hb5;have hf5:=hB2.grown hg5 (fun e=>by have:=aJ e;omega);have hbA5:=hbA.grown hg5 hbA.size (fun k hk=>by cases hk;exact ay _)
      go_wp2_with (refine fP rfl _ _ _ rfl (wr.heap.size+1) 0 (vK x) rfl rfl _ _ hf5 (by show 0+13≤13;decide) frame_size (oZ x) ?_)
      intro w6 hb6 hg6;have fx6:aC w6 (wr.heap.size+1) (vK x) 81:=by have e2:=iO (#[.int .u8 0,.int .u8 0,.int .u8 0,.int .u8 0,.int .u8 0,.int .u8 0,.int .u8 0,.int .u8 0,.int .i64 0,.bool false,.bool false,.int .i64 0,.int .i64 0]) (vK x) rfl;rw[←e2];exact hb6
      have ix6:aC w6 wr.heap.size #[.int .i64 (k:Int)] 3:=hb5'.grown hg6 (fun e=>by have:=aJ e;omega);have hbA6:=hbA5.grown hg6 hbA5.size (fun k hk=>by cases hk;omega);have hbr6:=ae hbr hbA6;have bx6:=bx.ext hbA6;have hIh6:IB w6 gh _:=aC.ext hIh hbA6;have hIs6:IB w6 gs _:=aC.ext hIs hbA6;obtain⟨gx,hgx⟩:∃g,g=wr.heap.size+1:=⟨_,rfl⟩;rw[←hgx] at fx6 ⊢;rw[←hgi] at ix6 ⊢;clear hbA hbA5 hbA6 hB1 hB2 hb5 hb5' hf5 hg5 hg6 hb6 hrd hbr bx hIh hIs e1 hgl hbl hgx hgi;go_upto_region 32 with (fail)
      by_cases c1:x.r=cnt (qQ H.ma) k
      ·by_cases c2:0≤x.f
       ·skip;refine aK 19 [_,_,_,_,_,_,_,_,_,_,_,_,_,_,.v (.func (.func 71) #[] #[.pointer (some ⟨gi,0,none⟩)]),.v (.bool (H.ca.any (isK (k:Int)))),_,_,.v (.bool (!(H.ca.any (isK (k:Int)))))] (Gf gx 8 rfl rfl (Gl fx6 rfl rfl rfl rfl rfl (Gk rfl (Gl ix6 (V:=.int .i64 (k:Int)) rfl rfl rfl rfl rfl (Gr (.pointer (some ⟨gh,k,none⟩)) (fun ρ y W hb hKn=>(Dp rfl (aD rfl hKn) (aD rfl hKn) hkl underlying29 int_one)) rfl rfl (Gc (.int .i64 (cnt (qQ H.ma) k:Int)) (fun W hb=>by simp[IB.cell (aC.ext hIh6 hb) (nO H.m.fs.length (qQ H.ma) k hkl)]) rfl rfl rfl rfl (Gb (.bool false) (by simp[go_sem,c1]) rfl rfl rfl rfl rfl (Gk rfl (Gf gx 11 rfl rfl (Gl fx6 rfl rfl rfl rfl rfl (Gb (.bool true) (by simp[go_sem,c2]) rfl rfl rfl rfl rfl (Gk rfl (Gf w.heap.size 9 rfl rfl (Gl bx6 rfl rfl rfl rfl rfl (ag ?_ (ag ?_ (Gr (.bool (!(H.ca.any (isK (k:Int))))) (fun ρ y W hb hKn=>CG rfl (aD rfl hKn)) rfl rfl (Gk rfl (Gk rfl (aB)))))))))))))))))))) (fun _=>rfl) rfl ?_
        ·intro ρ y W hw hn hb hd;have E15:ρ (.tmp 15) = .pointer (some ⟨gi,0,none⟩):=(hn (.tmp 15) rfl).trans rfl;refine aj (.func (.func 71) #[] #[.pointer (some ⟨gi,0,none⟩)]) (aY 11 120 true true rfl rfl ((hw 120 11 rfl).trans (hd 11 rfl))) (by simp[execOp,go_sem,E15]) rfl
        ·intro ρ y W hw hn hb hd;have E122:=hw 122 13 rfl;have h13:y 13=_:=hd 13 rfl;have E123:=hw 123 14 rfl;have h14:y 14=_:=hd 14 rfl;have EF:∀f,ρ (.func f) = .func (.func f) #[] #[]:=fun f=>hn (.func f) trivial;refine aO _ _ (aY 11 120 true true rfl rfl ((hw 120 11 rfl).trans (hd 11 rfl))) (aQ rfl (EF _) func70 (by kernel_rfl) (by kernel_rfl) (by simp only[bP,bM,bN,E122,h13,E123,h14,EF];rfl)) ?_;refine (QK H.ca _ _ W ((h.below hbr6).below hb).ca.rd (by omega) gi k (ix6.ext hb)).mono ?_;rintro r w1 ⟨rfl,hb1⟩;exact⟨_,rfl,hb1,rfl⟩
        intro y W7 hbW7 _;have hbr7:=ae hbr6 hbW7;have bx7:=bx6.ext hbW7;have hIh7:=aC.ext hIh6 hbW7;have hIs7:=aC.ext hIs6 hbW7;clear hbW7 hbr6 bx6 hIh6 hIs6 ix6 fx6;cases hA:H.ca.any (isK (k:Int)) with
        | true=>
         have hcnd:Hid (Ew H.ma k=true):=Lib.hid (by rw[hcd.out,decide_eq_true c1,hA];simp);clear c1 c2;have hall:Hid (∀i,i<k+1→Ew H.ma i=true):=Lib.hid fun i hi=>by
          by_cases e:i=k
          ·rw[e];exact hcnd.out
          ·exact hz3.out i (by omega)
         go_wp2;go_roundw
         case rel=>exact⟨k+1,by omega,by go_num,hbr7,bx7,hIh7,hIs7,hall⟩
         case measure=>simp[intOf];omega
        | false=>
         have hcnd:Hid (Ew H.ma k=false):=Lib.hid (by rw[hcd.out,decide_eq_true c1,hA,decide_eq_false (by omega)];rfl);clear c1 c2;have hq:Hid (jK H.ma=7):=Lib.hid (by rw[hwr2.out,if_neg];intro hcb;exact absurd (Kc hcb k hkl) (by rw[hcnd.out];decide));go_wp2;go_ret;rw[hq.out];exact⟨rfl,hbr7⟩
       have hcnd:Hid (Ew H.ma k=true):=Lib.hid (by rw[hcd.out,decide_eq_true c1,decide_eq_true (by omega)];rfl);refine aK 19 [_,_,_,_,_,_,_,_,_,_,_,_,_,_,_,_,_,_,.v (.bool false)] (Gf gx 8 rfl rfl (Gl fx6 rfl rfl rfl rfl rfl (Gk rfl (Gl ix6 (V:=.int .i64 (k:Int)) rfl rfl rfl rfl rfl (Gr (.pointer (some ⟨gh,k,none⟩)) (fun ρ y W hb hKn=>(Dp rfl (aD rfl hKn) (aD rfl hKn) hkl underlying29 int_one)) rfl rfl (Gc (.int .i64 (cnt (qQ H.ma) k:Int)) (fun W hb=>by simp[IB.cell (aC.ext hIh6 hb) (nO H.m.fs.length (qQ H.ma) k hkl)]) rfl rfl rfl rfl (Gb (.bool false) (by simp[go_sem,c1]) rfl rfl rfl rfl rfl (Gk rfl (Gf gx 11 rfl rfl (Gl fx6 rfl rfl rfl rfl rfl (Gb (.bool false) (by simp[go_sem,c2]) rfl rfl rfl rfl rfl (Gk rfl (Gk rfl (Gk rfl (Gk rfl (Gk rfl (Gk rfl (Gk rfl (Gk rfl (aB)))))))))))))))))))) (fun _=>rfl) rfl ?_;intro y W7 hbW7 _;have hbr7:=ae hbr6 hbW7;have bx7:=bx6.ext hbW7;have hIh7:=aC.ext hIh6 hbW7;have hIs7:=aC.ext hIs6 hbW7;clear hbW7 hbr6 bx6 hIh6 hIs6 ix6 fx6;clear c1 c2;have hall:Hid (∀i,i<k+1→Ew H.ma i=true):=Lib.hid fun i hi=>by
        by_cases e:i=k
        ·rw[e];exact hcnd.out
        ·exact hz3.out i (by omega)
       go_wp2;go_roundw
       case rel=>exact⟨k+1,by omega,by go_num,hbr7,bx7,hIh7,hIs7,hall⟩
       case measure=>simp[intOf];omega
      have hcnd:Hid (Ew H.ma k=false):=Lib.hid (by rw[hcd.out,decide_eq_false c1];rfl);refine aK 19 [_,_,_,_,_,_,_,_,_,_,_,_,_,_,_,_,_,_,.v (.bool true)] (Gf gx 8 rfl rfl (Gl fx6 rfl rfl rfl rfl rfl (Gk rfl (Gl ix6 (V:=.int .i64 (k:Int)) rfl rfl rfl rfl rfl (Gr (.pointer (some ⟨gh,k,none⟩)) (fun ρ y W hb hKn=>(Dp rfl (aD rfl hKn) (aD rfl hKn) hkl underlying29 int_one)) rfl rfl (Gc (.int .i64 (cnt (qQ H.ma) k:Int)) (fun W hb=>by simp[IB.cell (aC.ext hIh6 hb) (nO H.m.fs.length (qQ H.ma) k hkl)]) rfl rfl rfl rfl (Gb (.bool true) (by simp[go_sem,c1]) rfl rfl rfl rfl rfl (Gk rfl (Gk rfl (Gk rfl (Gk rfl (Gk rfl (Gk rfl (Gk rfl (Gk rfl (Gk rfl (Gk rfl (Gk rfl (Gk rfl (aB)))))))))))))))))))) (fun _=>rfl) rfl ?_;intro y W7 hbW7 _;have hbr7:=ae hbr6 hbW7;have bx7:=bx6.ext hbW7;have hIh7:=aC.ext hIh6 hbW7;have hIs7:=aC.ext hIs6 hbW7;clear hbW7 hbr6 bx6 hIh6 hIs6 ix6 fx6;clear c1;have hq:Hid (jK H.ma=7):=Lib.hid (by rw[hwr2.out,if_neg];intro hcb;exact absurd (Kc hcb k hkl) (by rw[hcnd.out];decide));go_wp2;go_ret;rw[hq.out];exact⟨rfl,hbr7⟩
     have hki:¬(k:Int)<(H.m.fs.length:Int):=by omega
     have hrs:=(h.below hbr).sl;have hIsr:dN wr (some ⟨gs,0,none⟩) ((ku H.sl.length (pG H.ma)).map fM):=fun i u hi=>⟨gs,0,rfl,by rw[ed,aC.cell hIs];simpa using hi⟩;have hcb:=bx.cell;unfold dD at hcb;have hll:=Lib.hid (mD H.sl.length (pG H.ma));have hq:Hid (jK H.ma=if H.sl=ku H.sl.length (pG H.ma) then 0 else 7):=Lib.hid (by
      rw[hwr2.out,Jq,dL.2 (fun i hi=>hz3.out i (by have:=dE.1 hi;have e:H.ma.m.fs.length=H.m.fs.length:=rfl;omega)),lm];show (if decide (H.sl=ku H.sl.length (pG H.ma))=true then (0:Int) else 7)=_
      by_cases e:H.sl=ku H.sl.length (pG H.ma)
      ·rw[if_pos e,if_pos (decide_eq_true e)]
      ·rw[if_neg e,if_neg (by simp[e])])
     have hsl60:=n2;generalize hC:ku H.sl.length (pG H.ma)=C at *
     clear hz3 hwr2 hC
     go_wp2_with fail
     rw[show (Value.slice (some ⟨gs,0,none⟩) H.sl.length H.sl.length) = .slice (some ⟨gs,0,none⟩) C.length H.sl.length from by rw[hll.out]];refine (Jk H.sl C H.asl (some ⟨gs,0,none⟩) H.csl H.sl.length _ hrs.rd hIsr (by omega) (by rw[hll.out];omega)).mono ?_;rintro r w5 ⟨rfl,hb5⟩
     by_cases e:H.sl=C
     ·rw[show (H.sl==C)=true from by rw[beq_iff_eq];exact e];have hq0:Hid (jK H.ma=0):=Lib.hid (by rw[hq.out,if_pos e]);clear e hcb;go_wp2;go_ret;rw[hq0.out];exact⟨rfl,ae hbr hb5⟩
     rw[show (H.sl==C)=false from by rw[beq_eq_false_iff_ne];exact e];have hq0:Hid (jK H.ma=7):=Lib.hid (by rw[hq.out,if_neg e]);clear e hcb;go_wp2;go_ret;rw[hq0.out];exact⟨rfl,ae hbr hb5⟩
end Go.Proofs.YtjkkoeijlhfneaaGreat
namespace Pw
open Go Go.RowKit
variable {P:Program} {Q:Exit → Act → World → Prop} {a0:Act} {i id:Nat} {o:Oper} {ops:Array Oper} {v:Value} {w w0:World}
theorem wp_mono' {a:Act} {K K' : Act→World→Prop} (h:∀v D w,K (Act.put { a with defers:=D } o.dst v) w→K' (Act.put { a with defers:=D } o.dst v) w)
 (hh:o.wp P a w K Q):o.wp P a w K' Q:=by
 unfold Oper.wp at *
 generalize (execOp a.eval o).run P w=r at *
 cases r with
 | ok n w'=>
  cases n<;>simp only[Oper.upon] at hh ⊢ <;>
   first
    | exact h _ a.defers _ hh
    | exact h _ _ _ hh
    | exact wQ hh (fun e w'' he=>by cases e<;>first | exact h _ a.defers _ he | exact he)
    | exact Rows.mono hh (fun _ _ he=>h _ a.defers _ he)
 | halt x w'=>cases x<;>simp only[Oper.upon] at hh ⊢<;>exact hh
def Bh (v:Value) (o:Oper):Oper:={ o with op:=.move (.const v) }
def freed (ops:Array Oper) (p:Nat) (v:Value):Array Oper:=ops.modify p (Bh v)
theorem Bb (ops:Array Oper) (p:Nat) (v:Value) (i:Nat):(freed ops p v)[i]?=if p=i then (ops[i]?).map (Bh v) else ops[i]?:=by
 unfold freed;rw[Array.getElem?_modify]
theorem Dz (ops:Array Oper) (p:Nat) (v:Value):(freed ops p v).size=ops.size:=by unfold freed;simp
theorem Bt (ops:Array Oper) (p:Nat) (v:Value) (listed:Array Bool):Region.ready .any (freed ops p v) listed=Region.ready .any ops listed:=by
 unfold Region.ready;rw[Dz];apply List.filter_congr;intro i _;congr 1;rw[Bb]
 by_cases e:p=i
 ·rw[if_pos e];cases ops[i]?<;>rfl
 ·rw[if_neg e]
theorem Es (ops:Array Oper) (p:Nat) (v:Value) (ts:Array Value):yielded (freed ops p v) ts=yielded ops ts:=by
 funext g;unfold yielded;rw[Bb]
 by_cases e:p=g
 ·rw[if_pos e];cases ops[g]?<;>rfl
 ·rw[if_neg e]
def KO (ops:Array Oper) (p d:Nat):Bool:=
 (match ops[p]? with
  | some o=>(match o.op with
   | .move (.tmp t)=>decide (t=d)&&o.guard.isNone&&decide (o.dst≠some d)
   | _=>false)
  | none=>false) &&
 (List.range ops.size).all fun i=>match ops[i]? with
  | none=>true
  | some o=>decide (o.dst≠some d)||o.after.toList.any fun e=>decide (e.on=p)&&Region.binds .any e
theorem Ke {a:Act} {D:List Deferred} {dst:Option Tmp} {d:Nat} (h:dst≠some d):(Act.put { a with defers:=D } dst v).eval (.tmp d)=a.eval (.tmp d):=by
 cases dst with
 | none=>rfl
 | some t=>
  have ht:t≠d:=fun e=>h (by rw[e]);simp[Act.put,Act.eval,zM,ht]
theorem LW {listed:Array Bool} (hi:i∈Region.ready .any ops listed) (ho:ops[i]?=some o):listed.getD i false=false∧∀e∈o.after,Region.binds .any e=true→listed.getD e.on false=true:=by
 obtain⟨h1,o',ho',h2⟩:=mem_ready.1 hi;rw[ho] at ho';cases ho';refine⟨?_,h2⟩;rw[bO] at h1 ⊢;cases h:listed[i]? with
 | none=>rfl
 | some b=>rw[h] at h1;exact h1
theorem yR {P:Program} {ops:Array Oper} {Q:Exit→Act→World→Prop} {p d:Nat} {v:Value} (hok0:KO ops p d=true):∀(fuel:Nat) (listed:Array Bool) (a:Act) (w:World),(listed.getD p false=false→a.eval (.tmp d)=v)→wpAny P .any (freed ops p v) Q fuel listed a w→wpAny P .any ops Q fuel listed a w
 | 0,listed,a,w,hI,h=>by unfold wpAny at h ⊢;rw[Bt] at h;exact h
 | fuel+1,listed,a,w,hI,h=>by
  unfold wpAny at h ⊢;rw[Bt] at h;refine⟨h.1,fun i hi => ?_⟩;have hw:=h.2 i hi;have hup:(listed.setIfInBounds i true).getD p false=false→listed.getD p false=false:=fun h'=>by
   cases hl:listed.getD p false with
   | false=>rfl
   | true=>
    exfalso
    by_cases hs:i<listed.size
    ·rw[wZ hs p hl] at h'; cases h'
    have e:listed.setIfInBounds i true=listed:=by rw[Array.setIfInBounds_eq_of_size_le (by omega)]
    rw[e,hl] at h'; cases h'
  have hok:=hok0;unfold KO at hok;rw[dS] at hok;obtain⟨hp,hall⟩:=hok;unfold wpOp at hw ⊢;rw[Bb,Es] at hw;cases ho:ops[i]? with
  | none=>
   rw[ho] at hw;have hw' : wpAny P .any (freed ops p v) Q fuel (listed.setIfInBounds i true) a w:=by
    by_cases e:p=i
    ·rw[if_pos e] at hw;exact hw
    ·rw[if_neg e] at hw;exact hw
   exact yR hok0 fuel _ a w (fun h'=>hI (hup h')) hw'
  | some o=>
   rw[ho] at hw;have hilt:i<ops.size:=(gW.1 ho).1;have hedge:=LW hi ho
   by_cases e:p=i
   ·subst e;rw[if_pos rfl] at hw;simp only[tC] at hw;rw[ho] at hp;simp only at hp;cases hop:o.op with
    | move x=>
     rw[hop] at hp;cases x with
     | tmp t=>
      simp only[dS,decide_eq_true_eq] at hp;obtain⟨⟨rfl,hg⟩,hdst⟩:=hp;have hev:a.eval (.tmp t)=v:=hI hedge.1;have hex:execOp a.eval (Bh v o)=execOp a.eval o:=by unfold execOp Bh;simp only[hop];rw[hev];rfl
      have hnext:∀(v' : Value) (D:List Deferred) (w:World),wpAny P .any (freed ops p v) Q fuel (listed.setIfInBounds p true) (Act.put { a with defers:=D } o.dst v') w→wpAny P .any ops Q fuel (listed.setIfInBounds p true) (Act.put { a with defers:=D } o.dst v') w:=
       fun v' D w hh=>yR hok0 fuel _ _ w (fun _=>by rw[Ke hdst];exact hev) hh
      simp only;have hwt:Region.wanted (Bh v o) (yielded ops a.tmps)=Region.wanted o (yielded ops a.tmps):=rfl;rw[hwt] at hw;split
      ·rename_i hwant;rw[if_pos hwant] at hw;rcases hw with hw|hw
       ·refine .inl (wp_mono' hnext ?_);unfold Oper.wp at hw ⊢;rw[←hex];exact hw
       refine .inr ⟨?_,hw.2⟩;have:=hw.1;unfold Oper.asks at this ⊢;rw[←hex];exact this
      rename_i hwant;rw[if_neg hwant] at hw;exact hnext undef a.defers w hw
     | _=>cases hp
    | _=>rw[hop] at hp;cases hp
   rw[if_neg e] at hw;simp only at hw ⊢;have ho2:=dL.1 hall i (dE.2 hilt);rw[ho] at ho2;simp only[sP,decide_eq_true_eq] at ho2;have hnext:∀(v' : Value) (D:List Deferred) (w:World),wpAny P .any (freed ops p v) Q fuel (listed.setIfInBounds i true) (Act.put { a with defers:=D } o.dst v') w→wpAny P .any ops Q fuel (listed.setIfInBounds i true) (Act.put { a with defers:=D } o.dst v') w:=by
    intro v' D w hh;refine yR hok0 fuel _ _ w (fun h' => ?_) hh;rcases ho2 with h2|h2
    ·rw[Ke h2];exact hI (hup h')
    rw[iW] at h2;obtain⟨e',he',h3⟩:=h2;rw[dS,decide_eq_true_eq] at h3;have:=hedge.2 e' (mJ.1 he') h3.2;rw[h3.1] at this;rw[hup h'] at this;cases this
   split
   ·rename_i hwant;rw[if_pos hwant] at hw;exact hw.imp (wp_mono' hnext) id
   rename_i hwant;rw[if_neg hwant] at hw;exact hnext undef a.defers w hw
def freedL:List Oper→Nat→Value→List Oper
 | [],_,_=>[]
 | o::r,0,v=>Bh v o::r
 | o::r,k+1,v=>o::freedL r k v
theorem CV (v:Value):∀(l:List Oper) (p:Nat),l.modify p (Bh v)=freedL l p v
 | [],p=>by cases p<;>rfl
 | o::r,0=>rfl
 | o::r,k+1=>by rw[List.modify_succ_cons,CV v r k];rfl
theorem OI (l:List Oper) (p:Nat) (v:Value):freed ⟨l⟩ p v=⟨freedL l p v⟩:=by
 unfold freed;rw[←CV];simp
theorem Ue {l:List Oper} (p d:Nat) (v0:Value) (hm:P.follows .mixedOrders=true) (hf:KO ⟨l⟩ p d=true) (hv:a0.eval (.tmp d)=v0)
 (h:∀ops:Array Oper,ops=(freedL l p v0).toArray→wpAny P .any ops Q ops.size (Array.replicate ops.size false) a0 { w0 with drawn:=w0.drawn+1 }) :
  (Code.region id ⟨l⟩ true).wp P Q a0 w0:=by
 have h:=h _ rfl;rw[show (freedL l p v0).toArray=freed ⟨l⟩ p v0 from (OI l p v0).symm,Dz] at h;exact wp_region_any hm (yR hf _ _ _ _ (fun _=>hv) h)
end Pw
namespace Go.Proofs.YtjkkoeijlhfneaaGreat
open _root_.Go.Proofs.Tryz
open Go.RowKit Go.Maps Pw
variable {B B' b c n sz:Nat} {H:MH} {T:TypeId} {a:Option Addr} {cs:Array Value} {ps:List PF} {v:Value} {w w':World} {xs ys:List Value}
theorem Ia (l:List Cc) (a:Option Addr) (c:Nat) (w:World) (hle:l.length≤c) (hnil:a=none→c=0) (hrd:dN w a (l.flatMap mh)) (hb:l.length*24≤140737488355328) :
  Calls Tryz.prog 76 #[.slice a l.length c] w fun e w' => ∃v,e = .returned v∧Own w' w.heap.size 106 3 v l.length (l.flatMap mh)∧Below w.heap.size w w':=by
 cases a with
 | none=>
  have h0:=hnil rfl;have hl:l=[]:=jO (by omega);subst hl;subst h0;have hq:=fun W=>lN (P:=Tryz.prog) W 38 _ none 0 0 0 0 underlying38;go_enter func76,ntmps76;go_wp2;go_ret;exact⟨_,rfl,by simpa using Own.nil _ _ _ _,Below.refl _ _⟩
 | some ad=>
  have hq:=fun W=>lN (P:=Tryz.prog) W 38 _ (some ad) l.length c 0 0 underlying38;go_enter func76,ntmps76
  go_wp2_with (at_builtin;go_must (refine eH rfl _ _ 38 rfl w.heap.size 106 (.agg #[.int .i64 0,.int .i64 0,.int .i64 0]) 3 24 underlying38 cached_info rfl (by decide) _ 0 [] rfl ?own (some ad) l.length c (l.flatMap mh) rfl (fun h=>(by cases h)) hle (mH l) ?rd (Gj l) (by unfold maxLen;omega) (by simpa using hb) ?bb ?k))
  case own=>exact⟨rfl,.inr ⟨w.heap.size,0,0,#[],rfl,ay _,aC.new _ _ _,ay _,aS _,by simp,fun j u h=>by simp at h⟩⟩
  case rd=>exact hrd.below ((Below.refl _ _).alloc (ay _) _)
  case bb=>exact fU _ _
  intro v w1 hown hgr;go_wp2;go_ret;exact⟨v,rfl,by simpa using hown,((Below.refl _ _).alloc (ay _) _).grown hgr (fU _ _) (fun k hk=>by cases hk;exact ay _)⟩
theorem RF.fsz (h:RF H.ma):TL H.fi:=by
 have h1:(H.fi.map PF.fi).length≤1000:=h.st.1;rw[fe] at h1;refine⟨by omega,fun p hp => ?_⟩;have:=h.st.2 p.fi (ib.2 ⟨p,hp,rfl⟩);have e:p.fi.b.length=p.l.length:=rfl;omega
theorem RF.spz (h:RF H.ma) {p:PS} (hp:p∈H.sp):p.ar.length≤1000∧Ey p.tb:=by
 obtain⟨h1,h2⟩:=h.sp.2 p.sp (ib.2 ⟨p,hp,rfl⟩);exact⟨h1,fun k hk=>by have:=h2 k hk;have e:p.sp.tb[k].length=p.tb[k].length:=rfl;omega⟩
def uU (w:World) (B:Nat) (p:PS) (s:Sp):Prop:=p.sp=s∧Own w B 99 7 (.slice p.aa p.ar.length p.ac) p.ar.length (p.ar.flatMap mF)∧qD w B (ng p.ts) p.tb
theorem uU.below {p:PS} {s:Sp} (h:uU w B p s) (hb:Below w.heap.size w w'):uU w' B p s:=⟨h.1,h.2.1.below hb,h.2.2.below hb⟩
def Vj (B:Nat) (s:Sp):lX:=⟨fun v w => ∃p,v = .agg (vM p)∧uU w B p s,fun _ _ _ hb ⟨p,h1,h2⟩=>⟨p,h1,h2.below hb⟩⟩
def VH (B:Nat) (s:Sp):lX:=⟨fun v w => ∃g p,v = .slice (some ⟨g,0,none⟩) 1 1∧dN w (some ⟨g,0,none⟩) (tF p)∧uU w B p s,fun _ _ _ hb ⟨g,p,h1,h2,h3⟩=>⟨g,p,h1,h2.below hb,h3.below hb⟩⟩
theorem Rs {p:PS} {s:Sp} (h:uU w B p s):∀u∈tF p,u.oneCell' = true:=by
 have h1:=h.2.2.rd.one;rw[←ky,dL] at h1;intro u hu;simp only[tF,vM,bY,fI,or_false] at hu;simp only[ng,bY,fI,or_false] at h1;rcases hu with rfl|rfl|hu
 ·rfl
 ·rfl
 ·exact h1 u hu
theorem caO_size:(Tryz.prog.info? 38).map (·.size)=some 1:=by kernel_rfl
theorem MJ (ho:Own w B 55 10 (.slice a n c) n xs) (hg:w.grownBy w' (Value.slice a n c).ownBlock) :
  w.grownBy w' none∨∃g cs,aC w g cs 55∧B≤g∧w.grownBy w' (some g):=by
 cases hr:(Value.slice a n c).ownBlock with
 | none=>rw[hr] at hg;exact .inl hg
 | some g=>
  rw[hr] at hg;obtain⟨cs,hb⟩:=kM ho g hr;exact .inr ⟨g,cs,hb,ho.ge g hr,hg⟩
theorem iG {m:Nat} (ho:Own w B 55 10 (.slice a n c) n xs) (hg:w.grownBy w' (Value.slice a n c).ownBlock) (h:Own w B' T sz v m ys) (hT:T≠55):Own w' B' T sz v m ys:=by
 rcases MJ ho hg with h1|⟨g,cs,hb,_,h1⟩
 ·exact kC h h1
 ·exact ak h hb (fun e=>hT e.symm) h1
theorem zi (ho:Own w B 55 10 (.slice a n c) n xs) (hg:w.grownBy w' (Value.slice a n c).ownBlock) (h:aC w b cs T) (hT:T≠55):aC w' b cs T:=by
 rcases MJ ho hg with h1|⟨g,cs',hb,_,h1⟩
 ·exact h.grown h1 (fun e=>by cases e)
 ·exact h.grown h1 (fun e=>lJ h hb hT (aJ e).symm)
theorem Tk (ho:Own w B 55 10 (.slice a n c) n xs) (hg:w.grownBy w' (Value.slice a n c).ownBlock) (h:nM w B' v ps):nM w' B' v ps:=
 ⟨iG ho hg h.own (by decide),fun i p hp=>iG ho hg (h.each i p hp) (by decide),h.apart⟩
theorem BX {t:Tb} (ho:Own w B 55 10 (.slice a n c) n xs) (hg:w.grownBy w' (Value.slice a n c).ownBlock) (h:qD w B' cs t):qD w' B' cs t:=
 ⟨h.sz,fun k hk=>by obtain⟨v,h1,h2⟩:=h.own k hk;exact⟨v,h1,iG ho hg h2 (by decide)⟩,h.apart⟩
theorem mach_size:(Tryz.prog.info? 41).map (·.size)=some 11:=by kernel_rfl
theorem slsp_size:(Tryz.prog.info? 39).map (·.size)=some 1:=by kernel_rfl
end Go.Proofs.YtjkkoeijlhfneaaGreat