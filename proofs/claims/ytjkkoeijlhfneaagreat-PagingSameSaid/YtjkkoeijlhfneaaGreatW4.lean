import Derived.Test.YtjkkoeijlhfneaaGreatW3
import Derived.BigRegion
import Derived.Lib.AppendZerosOnto
import Derived.Lib.Overlaps
import Derived.Lib.SliceRun
import Derived.Laws.Externs
import Derived.Laws.IdiomCopy
import Derived.Deep.RegionLaw
import Derived.Deep.LoopGhost
import Derived.BigQuiet
import Derived.Deep.OwnRows
import Derived.Deep.DeepCutAuto
set_option linter.unusedSimpArgs false
set_option linter.unusedVariables false
set_option maxHeartbeats 4000000
set_option maxRecDepth 100000
namespace Go.Proofs.YtjkkoeijlhfneaaGreat
open _root_.Go.Proofs.Tryz
open Go.RowKit Go.Maps Pw
variable {B B' B0 b c c' f g i j k n off p sz:Nat} {H H' H0 H1 H2:MH} {P:Program} {Q:Exit → Act → World → Prop} {T T' e t:TypeId} {a a':Option Addr} {cs cs' cur:Array Value} {m:Ma} {o:Oper} {ops:Array Oper} {ps:List PF} {v:Value} {vs xs:List Value} {w w' w0 w1 w2:World} {x:Operand} {ρ:Operand → Value}
theorem jH {α:Type} {enc:α→List Value} (hsz:∀x,(enc x).length=sz) (hp:0<sz) {l:List α} (h:dI w a (l.flatMap enc)) (k:Nat) (hk:k<l.length) :
  ∃b off,a=some ⟨b,off,none⟩∧dI w (some ⟨b,off+k*sz,none⟩) (enc l[k]):=by
 obtain⟨b,off,ha,hc⟩:=h.elem hsz hp k hk;exact⟨b,off,ha,fun j u hj=>⟨b,off+k*sz,rfl,hc j u hj⟩⟩
theorem bL (h:aA w b cs T) (o n:Nat):dI w (some ⟨b,o,none⟩) ((cs.toList.drop o).take n):=by
 intro i u hi;refine⟨b,o,rfl,?_⟩;rw[h.cell,←uF];rw[lY] at hi;split at hi
 ·rw[rX] at hi;exact hi
 ·cases hi
def uD (H:MH) (e:Int):Array Value:=#[.slice H.af H.m.fs.length H.cf,.int .i64 H.m.hand,.slice H.asl H.sl.length H.csl,.slice H.wb H.sw.blocks.length H.cwb,.slice H.wq H.sw.queue.length H.cwq,
 .slice H.db H.dk.blocks.length H.cdb,.slice H.dq H.dk.queue.length H.cdq,.slice H.ai H.fi.length H.ci,.int .i64 H.ct,.slice H.ac H.ca.length H.cc,.slice H.ap H.sp.length H.cp,.int .i64 e]
def oB (a:Option Addr):Option Nat:=(Value.slice a 0 0).ownBlock
theorem lM (a:Option Addr) (n c:Nat):(Value.slice a n c).ownBlock=oB a:=by cases a<;>rfl
structure kY (w:World) (B b:Nat) (H:MH) (e:Int):Prop where
 blk:aA w b (uD H e) 96
 ge:B≤b
 ma:uz w B H
 tz:∀p∈H.sp,FC p.tb
def kb (b:Nat) (H:MH) (x:Nat):Prop:=x=b∨oB H.af=some x∨oB H.ac=some x∨oB H.ap=some x
structure KS (w0:World) (b:Nat) (H0:MH) (w:World) (H:MH):Prop where
 os:w.os=w0.os
 tape:w.tape=w0.tape
 output:w.output=w0.output
 size:w0.heap.size≤w.heap.size
 keep:∀x,x<w0.heap.size→¬kb b H0 x→w.heap[x]?=w0.heap[x]?
 sn:∀x,kb b H x→kb b H0 x∨w0.heap.size≤x
theorem KS.refl (w:World) (b:Nat) (H:MH):KS w b H w H:=⟨rfl,rfl,rfl,az _,fun _ _ _=>rfl,fun _ h => .inl h⟩
theorem KS.trans (h:KS w0 b H0 w1 H1) (k:KS w1 b H1 w2 H2):KS w0 b H0 w2 H2:=
 ⟨k.os.trans h.os,k.tape.trans h.tape,k.output.trans h.output,aY h.size k.size,fun x hx hn=>(k.keep x (qi hx h.size) (fun hk=>(h.sn x hk).elim hn (fun hh=>absurd hx (Dc.2 hh)))).trans (h.keep x hx hn),
  fun x hx=>(k.sn x hx).elim (h.sn x) (fun hh => .inr (aY h.size hh))⟩
theorem KS.below (h:KS w0 b H0 w H) (hb:Below w.heap.size w w'):KS w0 b H0 w' H:=
 ⟨hb.os.trans h.os,hb.tape.trans h.tape,hb.output.trans h.output,aY h.size hb.size,fun x hx hn=>(hb.block x (qi hx h.size)).trans (h.keep x hx hn),h.sn⟩
theorem KS.put {y:Nat} (h:KS w0 b H0 w H) (hg:w.grownBy w' (some y)) (hy:kb b H y) (hn:∀x,kb b H' x→kb b H x∨w0.heap.size≤x):KS w0 b H0 w' H':=
 ⟨hg.os.trans h.os,hg.tape.trans h.tape,hg.output.trans h.output,aY h.size hg.size,fun x hx hnx=>(hg.block x (qi hx h.size) (fun e=>by have e' : x=y:=aJ e;rw[←e'] at hy;exact (h.sn x hy).elim hnx (fun hh=>absurd hx (Dc.2 hh)))).trans (h.keep x hx hnx),fun x hx=>(hn x hx).elim (h.sn x) .inr⟩
theorem kY.lt {e:Int} (h:kY w B b H e):b<w.heap.size:=h.blk.lt
theorem kY.bs {e:Int} (h:kY w B b H e):B≤w.heap.size:=aY h.ge (qH h.lt)
theorem kY.below {e:Int} (h:kY w B b H e) (hb:Below w.heap.size w w'):kY w' B b H e:=⟨h.blk.ext hb,h.ge,h.ma.below hb,h.tz⟩
theorem iV (h:Own w B e sz (.slice a n c) n xs) {x:Nat} (hx:oB a=some x):B≤x∧∃cs,aA w x cs e:=by
 rw[←lM a n c] at hx;exact⟨h.ge x hx,kW h x hx⟩
theorem kY.kb_ge {e:Int} (h:kY w B b H e) {x:Nat} (hx:kb b H x):B≤x:=by
 rcases hx with hx|hx|hx|hx
 ·rw[hx];exact h.ge
 ·exact (iV h.ma.fr hx).1
 ·exact (iV h.ma.ca hx).1
 ·exact (iV h.ma.sp hx).1
theorem kY.kb_T {e:Int} (h:kY w B b H e) {x:Nat} (hx:kb b H x):∃cs T,aA w x cs T∧(T=96∨T=81∨T=106∨T=55):=by
 rcases hx with hx|hx|hx|hx
 ·rw[hx];exact⟨_,_,h.blk,.inl rfl⟩
 ·obtain⟨cs,hb⟩:=(iV h.ma.fr hx).2;exact⟨cs,_,hb,.inr (.inl rfl)⟩
 ·obtain⟨cs,hb⟩:=(iV h.ma.ca hx).2;exact⟨cs,_,hb,.inr (.inr (.inl rfl))⟩
 ·obtain⟨cs,hb⟩:=(iV h.ma.sp hx).2;exact⟨cs,_,hb,.inr (.inr (.inr rfl))⟩
theorem KS.to {e:Int} (h:kY w0 B b H0 e) (hs:KS w0 b H0 w H) (hB:B0≤B):Below B0 w0 w:=
 ⟨hs.os,hs.tape,hs.output,hs.size,fun x hx=>hs.keep x (by have:=h.bs;omega) (fun hk=>by have:=h.kb_ge hk;omega)⟩
theorem KS.blk {x:Nat} {e:Int} (hs:KS w0 b H0 w H) (h:kY w0 B b H0 e) (hk:aA w0 x cs T) (hT:T≠96∧T≠81∧T≠106∧T≠55):aA w x cs T:=by
 refine (hs.keep x hk.lt fun hx => ?_).trans hk;obtain⟨cs',T',hb,h4⟩:=h.kb_T hx;unfold aA at hk hb;rw[hk] at hb;simp only[jg,tO] at hb;obtain⟨t1,t2,t3,t4⟩:=hT;rcases h4 with e|e|e|e
 ·exact t1 (hb.2.1.trans e)
 ·exact t2 (hb.2.1.trans e)
 ·exact t3 (hb.2.1.trans e)
 ·exact t4 (hb.2.1.trans e)
theorem KS.blkN {x:Nat} (hs:KS w0 b H0 w H) (hk:aA w0 x cs T) (hx:¬kb b H0 x):aA w x cs T:=(hs.keep x hk.lt hx).trans hk
theorem KS.own {e:Int} (hs:KS w0 b H0 w H) (h:kY w0 B b H0 e) (ho:Own w0 B' t sz v n xs) (hT:t≠96∧t≠81∧t≠106∧t≠55):Own w B' t sz v n xs:=
 ⟨ho.1,ho.2.imp id fun⟨g,off,cap,cur,hv,hB,hk,r⟩=>⟨g,off,cap,cur,hv,hB,hs.blk h hk hT,r⟩⟩
theorem uz.keepK {e:Int} (h:kY w B b H e) (hg:w.grownBy w' (some b)):uz w' B H:=h.ma.keep h.blk (by decide) hg
theorem kY.setM {e:Int} (h:kY w B b H e) {m:Mem} (ho:Own w B 81 13 (.slice a m.fs.length c) m.fs.length (m.fs.flatMap qz)) (hb:aA w' b (bD (uD H e) 0 [.slice a m.fs.length c,.int .i64 m.hand]) 96) (hg:w.grownBy w' (some b)) :
  kY w' B b { H with af:=a,cf:=c,m:=m } e:=
 ⟨hb,h.ge,{ uz.keepK h hg with fr:=ak ho h.blk (by decide) hg },h.tz⟩
theorem kY.setL {e:Int} (h:kY w B b H e) {l:List Int} (ho:Own w B 3 1 (.slice a l.length c) l.length (l.map gB)) (hb:aA w' b (bD (uD H e) 2 [.slice a l.length c]) 96) (hg:w.grownBy w' (some b)) :
  kY w' B b { H with asl:=a,csl:=c,sl:=l } e:=
 ⟨hb,h.ge,{ uz.keepK h hg with sl:=ak ho h.blk (by decide) hg },h.tz⟩
theorem kY.setW {e:Int} (h:kY w B b H e) {d:oD} (ho:iE w B (.slice a d.blocks.length c) (.slice a' d.queue.length c') d) (hb:aA w' b (bD (uD H e) 3 [.slice a d.blocks.length c,.slice a' d.queue.length c']) 96) (hg:w.grownBy w' (some b)) :
  kY w' B b { H with wb:=a,cwb:=c,wq:=a',cwq:=c',sw:=d } e:=
 ⟨hb,h.ge,{ uz.keepK h hg with sw:=ho.keep h.blk (by decide) (by decide) hg },h.tz⟩
theorem kY.setD {e:Int} (h:kY w B b H e) {d:oD} (ho:iE w B (.slice a d.blocks.length c) (.slice a' d.queue.length c') d) (hb:aA w' b (bD (uD H e) 5 [.slice a d.blocks.length c,.slice a' d.queue.length c']) 96) (hg:w.grownBy w' (some b)) :
  kY w' B b { H with db:=a,cdb:=c,dq:=a',cdq:=c',dk:=d } e:=
 ⟨hb,h.ge,{ uz.keepK h hg with dk:=ho.keep h.blk (by decide) (by decide) hg },h.tz⟩
theorem kY.setS {e:Int} (h:kY w B b H e) {k:Int} (ho:nM w B (.slice a ps.length c) ps) (hk : -9223372036854775808≤k∧k≤9223372036854775807) (hb:aA w' b (bD (uD H e) 7 [.slice a ps.length c,.int .i64 k]) 96) (hg:w.grownBy w' (some b)) :
  kY w' B b { H with ai:=a,ci:=c,fi:=ps,ct:=k } e:=
 ⟨hb,h.ge,{ uz.keepK h hg with st:=ho.keep h.blk (by decide) (by decide) hg,c64:=hk },h.tz⟩
theorem kY.setE {e e' : Int} (h:kY w B b H e) (hb:aA w' b (bD (uD H e) 11 [.int .i64 e']) 96) (hg:w.grownBy w' (some b)):kY w' B b H e':=
 ⟨hb,h.ge,uz.keepK h hg,h.tz⟩
def KR (w:World) (B b:Nat) (H:MH) (w' : World) (k:Kp):Prop:=∃H' e',kY w' B b H' e'∧KS w b H w' H'∧Kp.mk H'.ma e' = k
theorem Jc (h1:H'.af=H.af) (h2:H'.ac=H.ac) (h3:H'.ap=H.ap) {x:Nat} (hx:kb b H' x):kb b H x:=by
 unfold kb at hx ⊢; rw[h1,h2,h3] at hx;exact hx
theorem KS.putB (h:KS w0 b H0 w H) (hg:w.grownBy w' (some b)) (h1:H'.af=H.af) (h2:H'.ac=H.ac) (h3:H'.ap=H.ap):KS w0 b H0 w' H':=
 h.put hg (.inl rfl) fun x hx => .inl (Jc h1 h2 h3 hx)
theorem KS.putF (h:KS w0 b H0 w H) (hg:w.grownBy w' (some b)) (ho:Own w B' t sz (.slice H'.af n c) n xs) (hB:w0.heap.size≤B') (h2:H'.ac=H.ac) (h3:H'.ap=H.ap):KS w0 b H0 w' H':=
 h.put hg (.inl rfl) fun x hx=>by
  rcases hx with hx|hx|hx|hx
  ·exact .inl (.inl hx)
  ·exact .inr (aY hB (iV ho hx).1)
  ·exact .inl (.inr (.inr (.inl (by rw[←h2];exact hx))))
  ·exact .inl (.inr (.inr (.inr (by rw[←h3];exact hx))))
theorem Ni {row:Option Nat} (hb:Below w.heap.size w w1) (hg:w1.grownBy w2 row):w.grownBy w2 row:=
 ⟨hg.os.trans hb.os,hg.tape.trans hb.tape,hg.output.trans hb.output,aY hb.size hg.size,fun k hk hn=>(hg.block k (qi hk hb.size) hn).trans (hb.block k hk)⟩
def SE (k B:Nat) (T:TypeId) (R:lT):wK:=⟨fun y w => ∃g cc,y k = .pointer (some ⟨g,0,none⟩)∧B≤g∧aA w g cc T∧R.r (.agg cc) w,[k],
 fun y w w' hb ⟨g,cc,h1,h2,h3,h4⟩=>⟨g,cc,h1,h2,h3.ext hb,R.st _ _ _ hb h4⟩,fun y y' w h ⟨g,cc,h1,h2⟩=>⟨g,cc,by rw[←h k (bv.2 rfl)];exact h1,h2⟩⟩
theorem bV (h:cs.all (·.oneCell')=true):∀u∈cs.toList,u.oneCell' = true:=by
 rw[←jr,dF] at h;exact h
theorem Dq (H:MH):H.ma.sp.length=H.sp.length:=eH _
theorem Bc {l:List Cc} (h:dI w a (l.flatMap mE)) (k:Nat) (hk:k<l.length):∃b off,a=some ⟨b,off,none⟩∧dI w (some ⟨b,off+k*3,none⟩) (mE l[k]):=jH pR (by decide) h k hk
theorem rY (e:Int):jo e 0=e:=by unfold jo;split<;>simp_all
theorem Rn {e:Int} (h:e≠0) (er:Int):jo e er=e:=by unfold jo;rw[if_neg h]
theorem kY.rdM {e:Int} (h:kY w B b H e):dI w (some ⟨b,0,none⟩) [.slice H.af H.m.fs.length H.cf,.int .i64 H.m.hand]:=bL h.blk 0 2
theorem kY.rdW {e:Int} (h:kY w B b H e):dI w (some ⟨b,3,none⟩) [.slice H.wb H.sw.blocks.length H.cwb,.slice H.wq H.sw.queue.length H.cwq]:=bL h.blk 3 2
theorem kY.rdD {e:Int} (h:kY w B b H e):dI w (some ⟨b,5,none⟩) [.slice H.db H.dk.blocks.length H.cdb,.slice H.dq H.dk.queue.length H.cdq]:=bL h.blk 5 2
theorem kY.rdS {e:Int} (h:kY w B b H e):dI w (some ⟨b,7,none⟩) [.slice H.ai H.fi.length H.ci,.int .i64 H.ct]:=bL h.blk 7 2
theorem vo (H:MH) (e er:Int) (B b:Nat) (w:World) (h:kY w B b H e) :
  Calls Tryz.prog 89 #[.pointer (some ⟨b,0,none⟩),.int .i64 er] w fun r w'=>r = .returned (.tuple #[])∧kY w' B b H (jo e er)∧w.grownBy w' (some b):=by
 have hc:=h.blk.cell;have hf:=h.blk.free;unfold uD at hc;go_enter func89,ntmps89
 by_cases h0:e=0
 ·have hg:=aH w b 11 [.int .i64 er];have hb:=h.blk.setCells [.int .i64 er] 11;have a:Hid (jo e er=er):=Lib.hid (by unfold jo;rw[if_pos h0]);have h':=Lib.hid h;clear h;go_wp2;simp[bodyPost,results,go_sem,results89];rw[a.out];exact⟨h'.out.setE hb hg,hg⟩
 go_wp2;simp[bodyPost,results,go_sem,results89];rw[Rn h0];exact⟨h,Jb _ _⟩
theorem Ug (H:MH) (e f n:Int) (B b:Nat) (w:World) (h:kY w B b H e) :
  Calls Tryz.prog 80 #[.pointer (some ⟨b,0,none⟩),.int .i64 f,.int .i64 n] w fun r w'=>r = .returned (.tuple #[])∧∃H' e',kY w' B b H' e'∧KS w b H w' H'∧Kp.mk H'.ma e' = iM ⟨H.ma,e⟩ f n∧H'.sp=H.sp:=by
 go_enter func80,ntmps80
 go_wp2_with (refine ax _ _ rfl b 0 rfl rfl _ h.rdM _ underlying28 rfl mem_size ?_)
 refine (PY H.m f n _ _ _ h.ma.rd.fr).mono ?_;rintro r w1 ⟨vb,rfl,ho,l⟩;obtain⟨a1,c1,rfl,_⟩:=Dv ho;have p:=Lib.hid h.bs;have h1:=h.below l;have s1:=(KS.refl w b H).below l
 go_wp2_with (refine aF rfl _ _ _ rfl #[.slice a1 (lK H.m f n).fs.length c1,.int .i64 (lK H.m f n).hand] rfl rfl rfl mem_size (jm _ _ _ _) ?_)
 intro w2 c g;have h2:=h1.below c;have s2:=s1.below c;have j:=ho.below c;clear h1 s1 ho c
 go_wp2_with fail
 refine (vo _ e (ny H.m f n) _ _ _ h2).mono ?_;rintro r w3 ⟨rfl,h3,a⟩;have s3:=s2.putB a rfl rfl rfl;have i:=ak j h2.blk (by decide) a;have d:=bu g h2.blk (by decide) a;clear h2 s2 j g a
 by_cases h0:ny H.m f n=0
 ·rw[h0,rY] at h3;have hq:Hid (iM ⟨H.ma,e⟩ f n=⟨{ H.ma with m:=lK H.m f n },e⟩):=Lib.hid (by unfold iM;exact if_pos h0);have hx:=d.cell;clear h;rw[h0]
  go_wp2_with (first | (refine ax _ _ rfl _ 0 rfl rfl [.slice a1 (lK H.m f n).fs.length c1,.int .i64 (lK H.m f n).hand] (bL d 0 2) _ underlying28 rfl mem_size ?_) | (refine gZ rfl _ _ _ rfl b 0 _ rfl rfl _ _ h3.blk (by show 0+2≤12;decide) mem_size (jm _ _ _ _) ?_))
  intro w4 o k;have h4:=h3.setM (i.mono p.out) o k;go_wp2;simp[bodyPost,results,go_sem,results80];rw[hq.out];exact⟨_,_,h4,s3.putF k i (az _) rfl rfl,rfl,rfl⟩
 have hq:Hid (iM ⟨H.ma,e⟩ f n=⟨H.ma,jo e (ny H.m f n)⟩):=Lib.hid (by unfold iM;exact if_neg h0);go_wp2;simp[bodyPost,results,go_sem,results80];rw[hq.out];exact⟨_,_,h3,s3,rfl,rfl⟩
theorem Bo (H:MH) (e f n:Int) (B b:Nat) (w:World) (h:kY w B b H e) :
  Calls Tryz.prog 80 #[.pointer (some ⟨b,0,none⟩),.int .i64 f,.int .i64 n] w fun r w'=>r = .returned (.tuple #[])∧KR w B b H w' (iM ⟨H.ma,e⟩ f n):=
 (Ug H e f n B b w h).mono fun r w' ⟨h1,H',e',h2,h3,h4,_⟩=>⟨h1,H',e',h2,h3,h4⟩
theorem bG {y:Operand} {k:IntKind} (ho:o.op = .indexAddr t x y) (hx:ρ x = .slice (some ⟨b,off,none⟩) n c) (hy:ρ y = .int k (i:Int)) (hi:i<n)
 (hu:P.underlying t=some (.slice e)) (hs:(P.info? e).map (·.size)=some sz):(execOp ρ o).run P w = .ok (.value (.pointer (some ⟨b,off+i*sz,none⟩))) w:=by
 obtain⟨inf,a,d⟩:∃inf,P.info? e=some inf∧inf.size=sz:=by
  cases h:P.info? e with
  | none=>rw[h] at hs;cases hs
  | some inf=>rw[h] at hs;exact⟨inf,rfl,by simpa using hs⟩
 have f:(Go.sizeOf e).run P w = .ok sz w:=by simp[Go.sizeOf,typeInfo,a,go_sem,d]
 simp[execOp,go_sem,ho,hx,hy,hu,f,hi]
theorem rQ {o:Nat} (h:dI w (some ⟨b,o,none⟩) vs) (d n:Nat):dI w (some ⟨b,o+d,none⟩) ((vs.drop d).take n):=by
 intro i u hi;rw[lY] at hi;split at hi
 ·rw[rX] at hi;obtain⟨b',o',e,hc⟩:=h (d+i) u hi;cases e;exact⟨_,_,rfl,by rw[mY];exact hc⟩
 ·cases hi
theorem vH {o:Nat} (r:List Value) (h:cur[o]?=some v):bD cur o (v::r)=bD cur (o+1) r:=by
 have:cur.setIfInBounds o v=cur:=by
  apply mr;intro i;rw[Bb]
  by_cases e:o=i
  ·subst e;rw[if_pos rfl,if_pos (iB.1 h).1,h]
  ·rw[if_neg e]
 show bD (cur.setIfInBounds o v) (o+1) r=_;rw[this]
theorem BL (h:Own w B e sz (.slice (some ⟨g,off,none⟩) n c) n xs) (hb:aA w g cur e):∀j u,xs[j]?=some u→cur[off+j]?=some u:=by
 rcases h.2 with ⟨h1,_⟩|⟨g',off',cap',cur',hv,_,hk,_,_,_,ht⟩
 ·cases h1
 cases hv;have:cur=cur':=by unfold aA at hb hk;rw[hb] at hk;simpa using hk
 subst this;exact ht
theorem kY.setT {e:Int} (h:kY w B b H e) {P:PS} (hP:H.sp[p]?=some P) :
  ∃g off cur,H.ap=some ⟨g,off,none⟩∧B≤g∧aA w g cur 55∧off+p*10+2+8≤cur.size∧dI w (some ⟨g,off+p*10,none⟩) (uj P) ∧
   ∀(w' : World) (v:Vector Value 8) (t:Tb),qZ w B (nG v) t→FC t→aA w' g (bD cur (off+p*10+2) (nG v).toList) 55→w.grownBy w' (some g)→kY w' B b { H with sp:=H.sp.set p { P with ts:=v,tb:=t } } e:=by
 have hp:=(dn.1 hP).1;have o:=(dn.1 hP).2;obtain⟨g,off,cap,cur,hv,hB,a,r,k⟩:=mF tT (by decide) rfl h.ma.sp p hp;simp only[mi] at hv;obtain⟨l,_,s⟩:=hv;have i:=h.ma.sp;rw[l] at i;have d:=BL i a;have f:∀j u,(uj P)[j]?=some u→cur[off+p*10+j]?=some u:=fun j u hj=>by rw[mY];exact d _ _ (flat_get uj 10 tT H.sp p hp j u (by rw[o];exact hj))
 refine⟨g,off,cur,l,hB,a,by omega,fun j u hj=>⟨g,_,rfl,by rw[a.cell];exact f j u hj⟩,fun w' v t ht m hb hg => ?_⟩;have e1:bD cur (off+p*10) (uj { P with ts:=v,tb:=t })=bD cur (off+p*10+2) (nG v).toList:=by show bD cur (off+p*10) (.bool P.lv :: .slice P.aa P.ar.length P.ac::(nG v).toList)=_;rw[vH _ (by simpa using f 0 _ rfl),vH _ (f 1 _ rfl)]
 rw[←e1] at hb;have c:(H.sp.set p { P with ts:=v,tb:=t }).length=H.sp.length:=bP;have n:b≠g:=fun e=>by have h1:=h.blk;subst e;unfold aA at h1 a;rw[h1] at a;simp only[jg,tO] at a;exact absurd a.2.1 (by decide)
 refine⟨?_,h.ge,⟨ak h.ma.fr a (by decide) hg,ak h.ma.sl a (by decide) hg,h.ma.sw.keep a (by decide) (by decide) hg,h.ma.dk.keep a (by decide) (by decide) hg,h.ma.st.keep a (by decide) (by decide) hg,ak h.ma.ca a (by decide) hg,?_,fun q hq => ?_,h.ma.c64⟩,fun q hq => ?_⟩
 ·have:uD { H with sp:=H.sp.set p { P with ts:=v,tb:=t } } e=uD H e:=by unfold uD;simp only[c]
  rw[this];exact h.blk.grown hg (fun e=>n (aJ e).symm)
 ·simp only[c];exact k w' _ hb
 ·rcases nu hq with hq|rfl
  ·exact⟨ak (h.ma.ps q hq).1 a (by decide) hg,(h.ma.ps q hq).2.keep a (by decide) hg⟩
  ·exact⟨ak (h.ma.ps P (bN hP)).1 a (by decide) hg,ht.keep a (by decide) hg⟩
 rcases nu hq with hq|rfl
 ·exact h.tz q hq
 ·exact m
theorem yI {P:PS} (hP:H.sp[p]?=some P):fH H.ma p=P.sp:=by
 unfold fH MH.ma;simp only;rw[aV,iU,hP];rfl
theorem Ox {P:PS} (hP:H.sp[p]?=some P) (v:Vector Value 8) (t:Tb):MH.ma { H with sp:=H.sp.set p { P with ts:=v,tb:=t } }=setTb H.ma p t:=by
 unfold setTb;rw[yI hP];unfold MH.ma;simp only[CZ];rfl
theorem Tv {v:Vector Value 8} {t:Tb} (h:FD w (nG v) t):∀u∈(nG v).toList,u.oneCell' = true:=by
 have:=h.one;rw[←jr,dF] at this;exact this
theorem UH {t:Tb} {n:Int} {e:En}:FC (setT t n e):=by
 by_cases h:setE t n e=0
 ·exact KY (ze h)
 ·rw[wY h];exact KY zTb_right
def PL (B:Nat) (t:Tb) (n:Int) (x:En):lT:=⟨fun v w => ∃cs,v = .tuple #[.agg cs,.int .i64 (setE t n x)]∧qZ w B cs (setT t n x),fun _ _ _ hb ⟨cs,h1,h2⟩=>⟨cs,h1,h2.below hb⟩⟩
def Kg (B:Nat) (t:Tb):lT:=⟨fun v w => ∃cs,v = .agg cs∧qZ w B cs t,fun _ _ _ hb ⟨cs,h1,h2⟩=>⟨cs,h1,h2.below hb⟩⟩
theorem vO (H:MH) (e n:Int) (p:Nat) (x:En) (B b:Nat) (w:World) (h:kY w B b H e) (hp:p<H.sp.length) :
  Calls Tryz.prog 79 #[.pointer (some ⟨b,0,none⟩),.int .i64 p,.int .i64 n,.agg (jq x)] w fun r w'=>r = .returned (.tuple #[])∧KR w B b H w' (jV ⟨H.ma,e⟩ p n x):=by
 obtain⟨P,hP⟩:∃P,H.sp[p]?=some P:=⟨_,aI hp⟩;have hE:=Lib.hid (yI hP);have hT:=Lib.hid h.bs;have hL:=bN hP;go_enter func79,ntmps79;go_upto_region 1 with (fail);refine gF (fun W=>Code.wp _ _ _ _ W) fun w1 ha hD hN => ?_;have h1:=h.below ha;have s1:=(KS.refl w b H).below ha;clear h hN;obtain⟨g,off,cur,o,hM,u,t,hj,s⟩:=h1.setT hP;refine nA 18 [_,_,_,_,_,_,_,_,_,_,_,.r 11 ((PL w1.heap.size P.tb n x)),.r 12 ((PL w1.heap.size P.tb n x)),.r 13 ((Kg w1.heap.size (setT P.tb n x))),.v (.int .i64 (setE P.tb n x)),.r 15 ((kD w1.heap.size 53 8)),.y 16 ((SE 15 w1.heap.size 53 (Kg w1.heap.size (setT P.tb n x)))),.v (.int .i64 (setE P.tb n x))] (fun W=>Below w1.heap.size w1 W) gP (Below.refl _ _) (Yk gP rfl (Yk gP rfl (Yf gP b 0 rfl rfl (Yf gP b 10 rfl rfl (Yc gP (.slice (some ⟨g,off,none⟩) H.sp.length H.cp) (fun W hb=>by simp[(h1.below hb).blk.cell,uD,o]) rfl rfl rfl rfl (Yk gP rfl (Yr gP (.pointer (some ⟨g,off+p*10,none⟩)) (fun ρ y W hb a=>(bG rfl (aC rfl a) (aC rfl a) hp underlying39 space_size)) rfl rfl (Yf gP g (off+p*10+2) rfl rfl (Yr gP (.agg (nG P.ts)) (fun ρ y W hb a=>(bF rfl (aC rfl a) (rQ (hj.below hb) 2 8) underlying53 tab_agg tab_size)) rfl rfl (Yk gP rfl (Yr gP (.agg (jq x)) (fun ρ y W hb a=>(bn rfl (aC rfl a) (hD.ext hb) underlying89 rfl entry_size)) rfl rfl (ag ?_ (ag ?_ (ag ?_ (ag ?_ (ag ?_ (ag ?_ (Yk gP rfl (aB))))))))))))))))))) (fun _=>rfl) rfl ?_
 ·intro ρ y W hw hn hb hd;refine mh gP hb ((PL w1.heap.size P.tb n x)) (fun _ _ h=>h) ?_;have h5:=hw 19 8 rfl;have h8:y 8 = .agg (nG P.ts):=hd 8 rfl;have h4:=hw 20 9 rfl;have h9:y 9 = .int .i64 n:=hd 9 rfl;have h3:=hw 21 10 rfl;have hX:y 10 = .agg (jq x):=hd 10 rfl;have EF:∀f,ρ (.func f) = .func (.func f) #[] #[]:=fun f=>hn (.func f) trivial;refine aL _ _ (ah rfl) (aO rfl (EF _) func118 (by kernel_rfl) (by kernel_rfl) (by simp only[bH,bA,bB,h5,h8,h4,h9,h3,hX,EF];rfl)) ?_;refine (RQ P.tb (nG P.ts) n x W (((h1.below hb).ma.ps P hL).2.rd) (h1.tz P hL)).mono ?_;rintro r W2 ⟨cs,rfl,ho,hS⟩;exact⟨_,rfl,hS,cs,rfl,ho.mono hb.size⟩
 ·intro ρ y W hw hn hb hd;refine mh gP hb ((PL w1.heap.size P.tb n x)) (fun _ _ h=>h) ?_;have hZ:=hw 22 11 rfl;have hW:=hd 11 rfl;refine aj _ (ah rfl) (run_move (.inl rfl) hZ) ?_;exact hW
 ·intro ρ y W hw hn hb hd;refine mh gP hb ((Kg w1.heap.size (setT P.tb n x))) (fun _ _ h=>h) ?_;have ht:=hw 10 12 rfl;have hs:=hd 12 rfl;obtain⟨cs,hr,ho⟩:=hs;refine aj (.agg cs) (ah rfl) (by simp[execOp,go_sem,dm,ht,hr]) ?_;exact⟨cs,rfl,ho⟩
 ·intro ρ y W hw hn hb hd;refine mh gP hb (ve (.int .i64 (setE P.tb n x))) (fun _ _ h=>h) ?_;have ht:=hw 10 12 rfl;have hs:=hd 12 rfl;obtain⟨cs,hr,ho⟩:=hs;refine aj (.int .i64 (setE P.tb n x)) (ah rfl) (by simp[execOp,go_sem,dm,ht,hr]) rfl
 ·intro ρ y W hw hn hb hd;refine mh gP hb ((kD w1.heap.size 53 8)) (fun _ _ h=>h) ?_;refine jT (.pointer (some ⟨W.heap.size,0,none⟩)) (ah rfl) (by simp[execOp,go_sem,dm]) ((Below.refl _ _).alloc (az _) (.cells #[.slice none 0 0,.slice none 0 0,.slice none 0 0,.slice none 0 0,.slice none 0 0,.slice none 0 0,.slice none 0 0,.slice none 0 0] 53)) ?_;exact⟨_,_,rfl,hb.size,aA.new _ _ _,rfl⟩
 ·intro ρ y W hw hn hb hd;have E8:=hw 8 15 rfl;have hU:=hd 15 rfl;have hY:=hw 23 13 rfl;have hV:=hd 13 rfl;obtain⟨cc,e7,hl⟩:=hV;obtain⟨g3,cur3,e9,hJ,m,hF⟩:=hU;have j:=hl.sz;refine sD (ah rfl) _ _ _ rfl g3 0 (.agg cc) cc.toList (E8.trans e9) (hY.trans e7) rfl cur3 _ m (by rw[iO,hF,j];exact az _) (by rw[iO,j];exact tab_size) (bV hl.rd.one) ?_;intro w1 hh l;rw[iF cur3 cc (by rw[hF,j])] at hh;refine⟨hb.grown l hb.size (fun k hk=>by cases hk;exact hJ),⟨g3,cc,e9,hJ,hh,⟨cc,rfl,hl.keep m (by decide) l⟩⟩,?_⟩;intro k hk hO
  match k,hk,hO with
  | 0,_,_=>exact fun h=>h
  | 1,_,_=>exact fun h=>h
  | 2,_,_=>exact fun h=>h
  | 3,_,_=>exact fun h=>h
  | 4,_,_=>exact fun h=>h
  | 5,_,_=>exact fun h=>h
  | 6,_,_=>exact fun h=>h
  | 7,_,_=>exact fun h=>h
  | 8,_,_=>exact fun h=>h
  | 9,_,_=>exact fun h=>h
  | 10,_,_=>exact fun h=>h
  | 11,_,_=>exact fun⟨c,q1,q2⟩=>⟨c,q1,q2.keep m (by decide) l⟩
  | 12,_,_=>exact fun⟨c,q1,q2⟩=>⟨c,q1,q2.keep m (by decide) l⟩
  | 13,_,_=>exact fun⟨c,q1,q2⟩=>⟨c,q1,q2.keep m (by decide) l⟩
  | 14,_,_=>exact fun h=>h
  | 15,_,_=>exact fun q=>pW q hh (fun _=>j) ⟨_,m⟩ l
  | 16,_,h=>exact absurd rfl h
  | 17,_,_=>exact fun h=>h
  | n+18,h,_=>exact absurd h (by omega)
 intro y W2 i d;replace i:Below w1.heap.size w1 W2:=i;have hB:((PL w1.heap.size P.tb n x)).r (y 11) W2:=d 11 (by decide);have hA:((PL w1.heap.size P.tb n x)).r (y 12) W2:=d 12 (by decide);have hz:((Kg w1.heap.size (setT P.tb n x))).r (y 13) W2:=d 13 (by decide);have hv:((kD w1.heap.size 53 8)).r (y 15) W2:=d 15 (by decide);have hu:=d 16 (by decide);clear d;simp only[cz,dm,bA,bB];obtain⟨gx,cs2,h7,hH,hK,ca2,hf,hm⟩:=hu;simp only[Dj] at hf;subst hf;obtain⟨v2,rfl⟩:=Tk hm.sz;have h2:=h1.below i;have s2:=s1.below i;have hI:=Lib.hid ha.size;clear hB hA hz hv s hj u t o h1 s1 hD hM ha cur
 go_wp2_with fail
 refine (vo _ e (setE P.tb n x) _ _ _ h2).mono ?_;rintro r w3 ⟨rfl,k3,z⟩;have s3:=s2.putB z rfl rfl rfl;have hG:=hm.keep h2.blk (by decide) z;have hC:=bu hK h2.blk (by decide) z;have hM:=Lib.hid hH;clear h2 s2 hm hK z i hH;have hi:Hid (setE (fH H.ma p).tb n x=setE P.tb n x):=Lib.hid (by rw[hE.out];rfl)
 by_cases h0:setE P.tb n x=0
 ·rw[h0,rY] at k3;have hq:Hid (jV ⟨H.ma,e⟩ p n x=⟨setTb H.ma p (setT P.tb n x),e⟩):=Lib.hid (by unfold jV;simp only;rw[if_pos (hi.out.trans h0),hE.out];rfl);obtain⟨g,off,cur,o,h6,u,t,hj,s⟩:=k3.setT hP;have hx:=hC.cell;have kc3:=k3.blk.cell;unfold uD at kc3;rw[o] at kc3;rw[h0];go_upto_region 4 with (fail);refine aK 9 [_,_,_,_,_,_,_,_,_] (Gk rfl (Gk rfl (Gf b 0 rfl rfl (Gf b 10 rfl rfl (Gc (.slice (some ⟨g,off,none⟩) H.sp.length H.cp) (fun W hb=>by simp[(k3.below hb).blk.cell,uD,o]) rfl rfl rfl rfl (Gk rfl (Gr (.agg (nG v2)) (fun ρ y W hb a=>(bF rfl (aC rfl a) ((hC.ext hb).rd) underlying53 tab_agg tab_size)) rfl rfl (Gr (.pointer (some ⟨g,off+p*10,none⟩)) (fun ρ y W hb a=>(bG rfl (aC rfl a) (aC rfl a) hp underlying39 space_size)) rfl rfl (Gf g (off+p*10+2) rfl rfl (aB)))))))))) (fun _=>rfl) rfl ?_;intro y W4 hg _
  go_wp2_with (refine gZ rfl _ _ _ rfl g (off+p*10+2) (nG v2) rfl rfl _ _ (u.ext hg) t tab_size (by rw[←jr,dF];exact Tv hG.rd) ?_)
  intro w5 hR hQ;have hc:=Ni hg hQ;have k5:=s w5 v2 (setT P.tb n x) (hG.mono (aY hT.out hI.out)) UH hR hc;go_wp2;simp[bodyPost,results,go_sem,results79];rw[hq.out];refine⟨_,_,k5,s3.put hc (.inr (.inr (.inr (by rw[o];rfl)))) fun y hy => .inl (Jc rfl rfl rfl hy),?_⟩;rw[Ox hP]
 have hq:Hid (jV ⟨H.ma,e⟩ p n x=⟨H.ma,jo e (setE P.tb n x)⟩):=Lib.hid (by unfold jV;simp only;rw[if_neg (by rw[hi.out];exact h0),hi.out]);go_wp2;simp[bodyPost,results,go_sem,results79];rw[hq.out];exact⟨_,_,k3,s3,rfl⟩
theorem slots_size:(Tryz.prog.info? 30).map (·.size)=some 1:=by kernel_rfl
def OY (B:Nat) (T:TypeId) (sz n:Nat) (xs:List Value) (er:Int):lT:=⟨fun v w => ∃u,v = .tuple #[u,.int .i64 er]∧Own w B T sz u n xs,fun _ _ _ hb ⟨u,h1,h2⟩=>⟨u,h1,h2.below hb⟩⟩
theorem kY.at {w:World} {B b:Nat} {H:MH} {e:Int} (h:kY w B b H e) {p:Nat} {P:PS} (hP:H.sp[p]?=some P):∃g off,H.ap=some ⟨g,off,none⟩∧dI w (some ⟨g,off+p*10,none⟩) (uj P)∧dI w (some ⟨g,off+p*10+2,none⟩) (nG P.ts).toList∧P.good w:=by
 have hp:=(dn.1 hP).1;obtain⟨g,off,P',ha,a,hr⟩:=wN h.ma.rd.sp.rd p hp;rw[hP] at a;cases a;exact⟨g,off,ha,hr,rQ hr 2 8,h.ma.rd.ps P (bN hP)⟩
theorem KR.trans {k:Kp} (h:KS w0 b H0 w1 H1) (k2:KR w1 B b H1 w2 k):KR w0 B b H0 w2 k:=by
 obtain⟨H2,e2,h1,h2,h3⟩:=k2;exact⟨H2,e2,h1,h.trans h2,h3⟩
theorem QR (H:MH) (e n:Int) (p:Nat) (B b:Nat) (w:World) (h:kY w B b H e) (hp:p<H.sp.length) :
  Calls Tryz.prog 102 #[.pointer (some ⟨b,0,none⟩),.int .i64 p,.int .i64 n] w fun r w'=>r = .returned (.tuple #[])∧KR w B b H w' (qD ⟨H.ma,e⟩ p n):=by
 obtain⟨P,hP⟩:∃P,H.sp[p]?=some P:=⟨_,aI hp⟩;have hs:=Lib.hid (yI hP);obtain⟨g,off,hE,ht,hh,d⟩:=h.at hP;have hc:=h.blk.cell;unfold uD at hc;rw[hE] at hc;have hL:(p:Int)<(H.sp.length:Int):=by omega
 go_enter func102,ntmps102
 go_wp2_with (refine ax _ _ rfl g (off+p*10+2) rfl rfl _ hh _ underlying53 tab_agg tab_size ?_)
 refine (Ll P.tb (nG P.ts) n _ d.tb).mono ?_;rintro r w1 ⟨rfl,hf⟩;have h1:=h.below hf;have s1:=(KS.refl w b H).below hf;clear hc ht hh d;generalize hx:dK P.tb n=x
 go_wp2_with (refine aF rfl _ _ _ rfl (jq x) rfl rfl rfl entry_size (by simp[jq,Value.oneCell']) ?_)
 intro w2 ha o;have h2:=h1.below ha;have s2:=s1.below ha;clear h1 s1 hf ha h;have i:=o.cell;unfold jq at i;have t:Hid (dK (fH H.ma p).tb n=x):=Lib.hid (by rw[hs.out];exact hx);clear hx
 by_cases hk1:x.k=1
 ·have hq:Hid (qD ⟨H.ma,e⟩ p n=jV (iM ⟨H.ma,e⟩ x.n (-1)) p n zEn):=Lib.hid (by unfold qD;simp only[t.out];rw[if_pos hk1]);have hJ:=Lib.hid hk1;rw[hk1] at i;clear hk1
  go_wp2_with fail
  refine (Bo H e x.n (-1) B b _ h2).mono ?_;rintro r w3 ⟨rfl,H3,e3,h3,s3,q3⟩;have hz:H3.sp.length=H.sp.length:=by
   have e1:H3.ma.sp=H.ma.sp:=by have:=congrArg (fun k=>k.m.sp) q3;simp only at this;rw[this];unfold iM;split<;>rfl
   have:=congrArg List.length e1;unfold MH.ma at this;simpa using this
  have s3':=s2.trans s3;have hv:=Lib.hid q3;clear q3 s3 i
  go_wp2_with fail
  refine (vO H3 e3 n p zEn B b _ h3 (by rw[hz];exact hp)).mono ?_;rintro r w4 ⟨rfl,hA⟩;go_wp2;simp[bodyPost,results,go_sem,results102];rw[hq.out,←hv.out];exact KR.trans s3' hA
 by_cases hk2:x.k=2
 ·have hq:Hid (qD ⟨H.ma,e⟩ p n=jV (pq ⟨H.ma,e⟩ x.n (-1)) p n zEn):=Lib.hid (by unfold qD;simp only[t.out];rw[if_neg hk1,if_pos hk2]);rw[hk2] at i;clear hk1 hk2;have hj:=h2.blk.cell;unfold uD at hj;go_upto_region 5 with (fail);refine nA 13 [_,_,_,_,_,_,_,.r 7 ((OY w2.heap.size 3 1 (gM H.sl x.n (-1)).length ((gM H.sl x.n (-1)).map gB) (gK H.sl x.n (-1)))),.r 8 ((OY w2.heap.size 3 1 (gM H.sl x.n (-1)).length ((gM H.sl x.n (-1)).map gB) (gK H.sl x.n (-1)))),.r 9 ((pJ w2.heap.size 3 1 (gM H.sl x.n (-1)).length ((gM H.sl x.n (-1)).map gB))),.v (.int .i64 (gK H.sl x.n (-1))),.r 11 ((pJ w2.heap.size 3 1 (gM H.sl x.n (-1)).length ((gM H.sl x.n (-1)).map gB))),.v (.int .i64 (gK H.sl x.n (-1)))] (fun W=>Below w2.heap.size w2 W) gP (Below.refl _ _) (Yk gP rfl (Yk gP rfl (Yf gP b 0 rfl rfl (Yf gP b 2 rfl rfl (Yc gP (.slice H.asl H.sl.length H.csl) (fun W hb=>by simp[(h2.below hb).blk.cell,uD]) rfl rfl rfl rfl (Yf gP w1.heap.size 1 rfl rfl (Yc gP (.int .i64 x.n) (fun W hb=>by simp[(o.ext hb).cell,jq]) rfl rfl rfl rfl (ag ?_ (ag ?_ (ag ?_ (ag ?_ (ag ?_ (Yk gP rfl (aB)))))))))))))) (fun _=>rfl) rfl ?_
  ·intro ρ y W hw hn hb hd;refine mh gP hb ((OY w2.heap.size 3 1 (gM H.sl x.n (-1)).length ((gM H.sl x.n (-1)).map gB) (gK H.sl x.n (-1)))) (fun _ _ h=>h) ?_;have hI:=hw 35 4 rfl;have h4:y 4 = .slice H.asl H.sl.length H.csl:=hd 4 rfl;have hH:=hw 37 6 rfl;have h6:y 6 = .int .i64 x.n:=hd 6 rfl;have EC:∀v,ρ (.const v)=v:=fun v=>hn (.const v) trivial;have EF:∀f,ρ (.func f) = .func (.func f) #[] #[]:=fun f=>hn (.func f) trivial;refine aL _ _ (ah rfl) (aO rfl (EF _) func78 (by kernel_rfl) (by kernel_rfl) (by simp only[bH,bA,bB,hI,h4,hH,h6,EC,EF];rfl)) ?_;have hm:=(h2.below hb).ma.rd.sl;refine (MU H.sl H.asl H.csl x.n (-1) W hm.le hm.nl hm.rd (by have:=hm.le;have:=hm.mx;unfold maxLen at this;omega)).mono ?_;rintro r W3 ⟨u,rfl,ho,hD⟩;exact⟨_,rfl,hD,u,rfl,ho.mono hb.size⟩
  ·intro ρ y W hw hn hb hd;refine mh gP hb ((OY w2.heap.size 3 1 (gM H.sl x.n (-1)).length ((gM H.sl x.n (-1)).map gB) (gK H.sl x.n (-1)))) (fun _ _ h=>h) ?_;have hG:=hw 38 7 rfl;have h7:=hd 7 rfl;refine aj _ (ah rfl) (run_move (.inl rfl) hG) ?_;exact h7
  ·intro ρ y W hw hn hb hd;refine mh gP hb ((pJ w2.heap.size 3 1 (gM H.sl x.n (-1)).length ((gM H.sl x.n (-1)).map gB))) (fun _ _ h=>h) ?_;have hg:=hw 30 8 rfl;have h8:=hd 8 rfl;obtain⟨u,hu,ho⟩:=h8;refine aj u (ah rfl) (by simp[execOp,go_sem,dm,hg,hu]) ?_;exact ho
  ·intro ρ y W hw hn hb hd;refine mh gP hb (ve (.int .i64 (gK H.sl x.n (-1)))) (fun _ _ h=>h) ?_;have hg:=hw 30 8 rfl;have h8:=hd 8 rfl;obtain⟨u,hu,ho⟩:=h8;refine aj (.int .i64 (gK H.sl x.n (-1))) (ah rfl) (by simp[execOp,go_sem,dm,hg,hu]) rfl
  ·intro ρ y W hw hn hb hd;refine mh gP hb ((pJ w2.heap.size 3 1 (gM H.sl x.n (-1)).length ((gM H.sl x.n (-1)).map gB))) (fun _ _ h=>h) ?_;have hF:=hw 39 9 rfl;have h9:=hd 9 rfl;refine aj _ (ah rfl) (run_move (.inr rfl) hF) ?_;exact h9
  intro y W3 a c;replace a:Below w2.heap.size w2 W3:=a;have hr:((OY w2.heap.size 3 1 (gM H.sl x.n (-1)).length ((gM H.sl x.n (-1)).map gB) (gK H.sl x.n (-1)))).r (y 7) W3:=c 7 (by decide);have hl:((OY w2.heap.size 3 1 (gM H.sl x.n (-1)).length ((gM H.sl x.n (-1)).map gB) (gK H.sl x.n (-1)))).r (y 8) W3:=c 8 (by decide);have hk:((pJ w2.heap.size 3 1 (gM H.sl x.n (-1)).length ((gM H.sl x.n (-1)).map gB))).r (y 9) W3:=c 9 (by decide);have l:((pJ w2.heap.size 3 1 (gM H.sl x.n (-1)).length ((gM H.sl x.n (-1)).map gB))).r (y 11) W3:=c 11 (by decide);clear c;simp only[cz,dm,bA,bB];have j:Own W3 w2.heap.size 3 1 (y 11) (gM H.sl x.n (-1)).length ((gM H.sl x.n (-1)).map gB):=l;obtain⟨a3,c3,e7,_⟩:=Own.rd j;rw[e7] at j;simp only[e7];have k3:=h2.below a;have s3:=s2.below a;have hB:=Lib.hid (aY h2.bs (az _));have hK:=Lib.hid s2.size;clear hr hl hk l e7 i hj h2 s2 o a
  go_wp2_with fail
  refine (vo _ e (gK H.sl x.n (-1)) _ _ _ k3).mono ?_;rintro r w4 ⟨rfl,k4,z⟩;have s4:=s3.putB z rfl rfl rfl;have hy:=ak j k3.blk (by decide) z;clear k3 s3 j z
  by_cases h0:gK H.sl x.n (-1)=0
  ·rw[h0,rY] at k4;have q:Hid (pq ⟨H.ma,e⟩ x.n (-1)=⟨{ H.ma with sl:=gM H.sl x.n (-1) },e⟩):=Lib.hid (by unfold pq;exact if_pos h0);rw[h0]
   go_wp2_with (refine aD rfl _ _ _ rfl b 2 _ [.slice a3 (gM H.sl x.n (-1)).length c3] rfl rfl rfl _ _ k4.blk (by show 2+1≤12;decide) slots_size (fun u hu=>by cases bv.1 hu;rfl) ?_)
   intro w5 hC hi;have k5:=k4.setL (hy.mono hB.out) hC hi;have s5:KS w b H w5 { H with asl:=a3,csl:=c3,sl:=gM H.sl x.n (-1) }:=s4.putB hi rfl rfl rfl
   go_wp2_with fail
   refine (vO _ e n p zEn B b _ k5 hp).mono ?_;rintro r w6 ⟨rfl,s⟩;go_wp2;simp[bodyPost,results,go_sem,results102];rw[hq.out,q.out];exact KR.trans s5 s
  have q:Hid (pq ⟨H.ma,e⟩ x.n (-1)=⟨H.ma,jo e (gK H.sl x.n (-1))⟩):=Lib.hid (by unfold pq;exact if_neg h0)
  go_wp2_with fail
  refine (vO _ (jo e (gK H.sl x.n (-1))) n p zEn B b _ k4 hp).mono ?_;rintro r w6 ⟨rfl,s⟩;go_wp2;simp[bodyPost,results,go_sem,results102];rw[hq.out,q.out];exact KR.trans s4 s
 have hq:Hid (qD ⟨H.ma,e⟩ p n=⟨H.ma,e⟩):=Lib.hid (by unfold qD;simp only[t.out];rw[if_neg hk1,if_neg hk2]);go_wp2;simp[bodyPost,results,go_sem,results102];rw[hq.out];exact⟨_,_,h2,s2,rfl⟩
theorem mo {a:Nat} (h:aA w a cs T) (h' : aA w b cs' T') (hT:T≠T'):a≠b:=by
 rintro rfl;unfold aA at h h';rw[h] at h';simp only[jg,tO] at h';exact hT h'.2.1
def Wq (B:Nat) (m:Mem):lT:=⟨fun v w => ∃u,v = .agg #[u,.int .i64 m.hand]∧Own w B 81 13 u m.fs.length (m.fs.flatMap qz),fun _ _ _ hb ⟨u,h1,h2⟩=>⟨u,h1,h2.below hb⟩⟩
theorem mU (l:List Cc):(l.flatMap mE).length=l.length*3:=Pw.flat_len mE 3 pR l
theorem Oz (c:Cc):∀u∈mE c,u.oneCell' = true:=bV (wm c)
theorem Jm (l:List Cc):∀u∈l.flatMap mE,u.oneCell' = true:=by
 intro u hu;obtain⟨c,_,hc⟩:=jY.1 hu;exact Oz c u hc
def LG (B:Nat) (S:St):lT:=⟨fun v w => ∃u ps k,v = .agg #[u,.int .i64 k]∧nM w B u ps∧cZ ps k=S,fun _ _ _ hb ⟨u,ps,k,h1,h2,h3⟩=>⟨u,ps,k,h1,h2.below hb,h3⟩⟩
theorem BZ {l:List Cc} {o:Nat} (h:∀j u,(l.flatMap mE)[j]?=some u→cur[o+j]?=some u):∀j u,((l.take k).flatMap mE)[j]?=some u→cur[o+j]?=some u:=by
 intro j u hj;refine h j u ?_
 conv=>lhs;rw[←qN k l,fu]
 rw[lm (by have:=(dn.1 hj).1;exact this)];exact hj
theorem Lt {l:List Cc} (hk:k≤l.length) {o:Nat} (h:∀j u,(l.flatMap mE)[j]?=some u→cur[o+j]?=some u):∀j u,((l.drop k).flatMap mE)[j]?=some u→cur[o+k*3+j]?=some u:=by
 intro j u hj;rw[mY];refine h _ u ?_
 conv=>lhs;rw[←qN k l,fu]
 have a:((l.take k).flatMap mE).length=k*3:=by rw[mU,kK,xQ hk]
 rw[kT (by omega),a,AO];exact hj
theorem Ls {a:Act} {K:Act→World→Prop} {E:Prop}
 (hg:o.guard=none) (d s:Operand) (t t' : TypeId) (hop:o.op=Op.call { callee:=.builtin .append,args:=#[d,s],argTypes:=#[t,t'] }) (vd vs v:Value)
 (hd:a.eval d=vd) (hx:a.eval s=vs) (hr:(Builtin.append_ #[t,t'] o.type #[vd,vs]).run P w = .ok v w') (hK:K (a.put o.dst v) w') :
  if Region.wanted o (yielded ops a.tmps)=true then Oper.wp P o a w K Q else E:=by
 have hw:Region.wanted o (yielded ops a.tmps)=true:=by simp[Region.wanted,hg]
 rw[if_pos hw];unfold Oper.wp;simp[execOp,hop,resolve,invoke,builtin,hd,hx,hr,Result.andThen];exact hK
theorem EE (l:List Cc) (k:Nat):(l.eraseIdx k).flatMap mE=(l.take k).flatMap mE++(l.drop (k+1)).flatMap mE:=by rw[List.eraseIdx_eq_take_drop_succ,fu]
theorem Li (l:List Cc) (k:Nat) (hk:k<l.length) (a:Option Addr) (c B:Nat) (w:World) (hown:Own w B 106 3 (.slice a l.length c) l.length (l.flatMap mE)) (hl:l.length≤1000) :
  Calls Tryz.prog 127 #[.slice a l.length c,.int .i64 k,.int .i64 ((k:Int)+1)] w fun e w'=>e = .returned (.slice a (l.length-1) c)∧Own w' B 106 3 (.slice a (l.length-1) c) (l.length-1) ((l.eraseIdx k).flatMap mE)∧w.grownBy w' (oB a):=by
 rcases hown with ⟨hlen,⟨_,hz⟩|⟨b,off,c',cur,hv,hBb,hb,hnc,hmx,hsz,hcell⟩⟩
 ·omega
 cases hv;have t:=hmx;unfold maxLen at t;have v:((l.drop (k+1)).flatMap mE).length=(l.length-(k+1))*3:=by rw[mU,List.length_drop]
 have x:=Lt (k:=k+1) (by omega) hcell;have q:∀ad cc ty,(∀j u,((l.drop (k+1)).flatMap mE)[j]?=some u→w.cell? (Addr.add ad j)=some u)→(Builtin.append_ #[38,38] ty #[.slice (some ⟨b,off,none⟩) k c,.slice (some ad) (l.length-(k+1)) cc]).run Tryz.prog w.drew = .ok (.slice (some ⟨b,off,none⟩) (k+(l.length-(k+1))) c) (w.drew.setCells b (off+k*3) ((l.drop (k+1)).flatMap mE)):=by intro ad cc ty hn;obtain⟨i0,hd,hh,i,hg⟩:=info_parts cached_info;have:=run_append_room_cells (P:=Tryz.prog) w.drew 38 ty 106 i0 underlying38 hd b off k c ad (l.length-(k+1)) cc ((l.drop (k+1)).flatMap mE) (by rw[i,v]) hn (fun u hu=>Jm _ u hu) (by omega) (fun j hj=>by rw[i,hb.drew.cell];simp[show off+k*3+j<cur.size by omega]) (fun j hj=>hb.drew.free _);rw[i] at this;exact this
 have r:k+1=l.length→((l.drop (k+1)).flatMap mE)=[]:=fun h=>by rw[qA (by omega)];rfl
 obtain⟨N,hN⟩:∃N,N=(l.drop (k+1)).flatMap mE:=⟨_,rfl⟩;rw[←hN] at v x q r;have ha:=Lib.hid hN;clear hN;have hi:IntKind.i64.wrap ((k:Int)+1)=(k:Int)+1:=bO _ (by omega);have hs:(k:Int)+1≤(l.length:Int):=by omega
 have hr:(k:Int)≤(k:Int)+1:=by omega
 have hf:¬((k:Int)=(k:Int)+1):=by omega
 have ht:(0:Int)≤(k:Int)+1:=by omega
 have hm:((k:Int)+1).toNat=k+1:=by omega
 have hp:(l.length:Int)≤(c:Int):=by omega
 have hq:(k:Int)≤(c:Int):=by omega
 go_enter func127,ntmps127
 go_wp2_with fail
 by_cases hck:c=k+1
 ·subst hck;have z:=Lib.hid (r (by omega));clear r
  go_region_law (refine Ls rfl _ _ 38 38 rfl (.slice (some ⟨b,off,none⟩) k (k+1)) (.slice (some ⟨b,off,none⟩) (l.length-(k+1)) 0) _ (by simp[Act.eval,Act.put]) (by simp[Act.eval,Act.put];omega) (q _ _ _ (fun j u hj=>by rw[z.out] at hj;simp at hj)) ?_)
  have g:=(hb.drew).setCells N (off+k*3);have f:w.grownBy (w.drew.setCells b (off+k*3) N) (some b):=vN (a:=w) (b:=w.drew) (row:=some b) ⟨rfl,rfl,rfl,az _,fun _ _ _=>rfl⟩ (aH w.drew _ _ _);have o:k+(l.length-(k+1))=k:=by omega
  try rw[o]
  have s : Hid (k=l.length-1):=Lib.hid (by omega);have e4:(l.length:Int)≤(k:Int)+1:=by omega
  generalize w.drew.setCells b (off+k*3) N=W1 at *
  have y:=fun ty=>ut (P:=Tryz.prog) W1 38 106 ty _ 3 24 underlying38 cached_info (by decide) (by decide) b (off+k*3) 1 (1) (by omega) _ _ g (by rw[size_putAt];show off+k*3+1*3≤cur.size;omega);have e1:l.length-k=1:=by omega
  have e2:((k:Nat):Int)≤(l.length:Int):=by omega
  have e3:¬((k+1)=k):=by omega
  go_wp2;go_ret;have p:=g.setCells (Builtin.zeroCells (Value.agg #[.int .i64 0,.int .i64 0,.int .i64 0]).cells 1).toList (off+k*3);have d:=vN f (aH W1 b (off+k*3) (Builtin.zeroCells (Value.agg #[.int .i64 0,.int .i64 0,.int .i64 0]).cells 1).toList);refine⟨congrArg (fun n=>Ending.returned (Value.slice (some ⟨b,off,none⟩) n (k+1))) (show k=l.length-1 by omega),⟨by rw[mU,AJ hk],.inr ⟨b,off,(k+1),_,rfl,hBb,p,by omega,hmx,by rw[size_putAt,size_putAt];exact hsz,?_⟩⟩,d⟩;intro j u hj;have hc:j<(l.length-1)*3:=by have:=(dn.1 hj).1;rw[mU,AJ hk] at this;exact this
  rw[putAt_out _ _ _ _ (.inl (by omega))];rw[EE,←ha.out] at hj;have m:((l.take k).flatMap mE).length=k*3:=by rw[mU,kK,xQ (by omega)]
  by_cases c1:j<k*3
  ·rw[lm (by omega)] at hj;rw[putAt_out _ _ _ _ (.inl (by omega))];exact BZ hcell j u hj
  rw[kT (by omega),m] at hj;have:=putAt_in _ cur (off+k*3) (j-k*3) u (by omega) hj;rwa [show off+k*3+(j-k*3)=off+j by omega] at this
 go_region_law (refine Ls rfl _ _ 38 38 rfl (.slice (some ⟨b,off,none⟩) k c) (.slice (some ⟨b,off+(k+1)*3,none⟩) (l.length-(k+1)) (c-(k+1))) _ (by simp[Act.eval,Act.put]) (by simp[Act.eval,Act.put]) (q _ _ _ (fun j u hj=>by rw[sO,hb.cell];exact x j u hj)) ?_)
 have g:=(hb.drew).setCells N (off+k*3);have f:w.grownBy (w.drew.setCells b (off+k*3) N) (some b):=vN (a:=w) (b:=w.drew) (row:=some b) ⟨rfl,rfl,rfl,az _,fun _ _ _=>rfl⟩ (aH w.drew _ _ _);have o:k+(l.length-(k+1))=(l.length-1):=by omega
 try rw[o]
 have s : Hid ((l.length-1)=l.length-1):=Lib.hid (by omega);have e4:(l.length:Int)≤(c:Int):=by omega
 generalize w.drew.setCells b (off+k*3) N=W1 at *
 have y:=fun ty=>ut (P:=Tryz.prog) W1 38 106 ty _ 3 24 underlying38 cached_info (by decide) (by decide) b (off+(l.length-1)*3) 1 (c-(l.length-1)) (by omega) _ _ g (by rw[size_putAt];show off+(l.length-1)*3+1*3≤cur.size;omega);have e1:l.length-(l.length-1)=1:=by omega
 have e2:(((l.length-1):Nat):Int)≤(l.length:Int):=by omega
 have e3:¬(c=(l.length-1)):=by omega
 go_wp2;go_ret;have p:=g.setCells (Builtin.zeroCells (Value.agg #[.int .i64 0,.int .i64 0,.int .i64 0]).cells 1).toList (off+(l.length-1)*3);have d:=vN f (aH W1 b (off+(l.length-1)*3) (Builtin.zeroCells (Value.agg #[.int .i64 0,.int .i64 0,.int .i64 0]).cells 1).toList);refine⟨congrArg (fun n=>Ending.returned (Value.slice (some ⟨b,off,none⟩) n c)) (show (l.length-1)=l.length-1 by omega),⟨by rw[mU,AJ hk],.inr ⟨b,off,c,_,rfl,hBb,p,by omega,hmx,by rw[size_putAt,size_putAt];exact hsz,?_⟩⟩,d⟩;intro j u hj;have hc:j<(l.length-1)*3:=by have:=(dn.1 hj).1;rw[mU,AJ hk] at this;exact this
 rw[putAt_out _ _ _ _ (.inl (by omega))];rw[EE,←ha.out] at hj;have m:((l.take k).flatMap mE).length=k*3:=by rw[mU,kK,xQ (by omega)]
 by_cases c1:j<k*3
 ·rw[lm (by omega)] at hj;rw[putAt_out _ _ _ _ (.inl (by omega))];exact BZ hcell j u hj
 rw[kT (by omega),m] at hj;have:=putAt_in _ cur (off+k*3) (j-k*3) u (by omega) hj;rwa [show off+k*3+(j-k*3)=off+j by omega] at this
theorem UM (c:Cc) (g g2:Nat) (f i:Int) (w:World) (hg:aA w g #[.int .i64 f] 3) (hg2:aA w g2 #[.int .i64 i] 3) :
  Calls Tryz.prog 142 #[.agg (Bf c),.pointer (some ⟨g,0,none⟩),.pointer (some ⟨g2,0,none⟩)] w fun r w'=>r = .returned (.bool (Bw f i c))∧Below w.heap.size w w':=by
 go_enter func142,ntmps142;go_upto_region 1 with (fail);refine gF (fun W=>Code.wp _ _ _ _ W) fun W0 a b d => ?_;clear d;have j:=(hg.ext a).cell 0;have h:=(hg2.ext a).cell 0;have e:=b.cell;unfold Bf at e
 by_cases h1:f<c.f
 ·go_wp2;go_ret;exact⟨bQ (by unfold Bw;simp[h1]),a⟩
 by_cases h2:c.f=f
 ·have e1:(c.f==f)=true:=by simpa using h2
  by_cases h3:i≤c.i
  ·go_wp2;go_ret;exact⟨bQ (by unfold Bw;simp[h2,h3]),a⟩
  go_wp2;go_ret;exact⟨bQ (by unfold Bw;simp[h1,h2,h3]),a⟩
 have e1:(c.f==f)=false:=by simpa using h2
 go_wp2;go_ret;exact⟨bQ (by unfold Bw;simp[h1,h2]),a⟩
theorem QQ (l:List Cc) (a:Option Addr) (c:Nat) (w:World) (hrd:dI w a (l.flatMap mE)) (hl:l.length≤9223372036854775807) (g g2:Nat) (ff ii:Int) (hg:aA w g #[.int .i64 ff] 3) (hg2:aA w g2 #[.int .i64 ii] 3) :
  Calls Tryz.prog 113 #[.slice a l.length c,.func (.func 142) #[] #[.pointer (some ⟨g,0,none⟩),.pointer (some ⟨g2,0,none⟩)]] w fun e w'=>e = .returned (.int .i64 (idx (Bw ff ii) l))∧Below w.heap.size w w':=by
 go_enter func113,ntmps113;go_wp2
 go_loopw [8] (fun i wr => ∃k:Nat,k≤l.length∧i = .int .i64 k∧Below w.heap.size w wr∧∀i (h:i<l.length),i<k→(Bw ff ii) l[i]=false) (fun i _=>l.length-(intOf i).toNat)
 case atStart=>exact⟨0,aW _,rfl,Below.refl _ _,fun i _ h=>absurd h (eG _)⟩
 case round=>
  obtain⟨k,hk,rfl,f,n⟩:=hrel;have hp:=Lib.hid n;clear n
  by_cases hlt:k<l.length
  ·obtain⟨b,off,rfl,p⟩:=Bc (hrd.below f) k hlt
   go_wp2_with (refine ax _ _ rfl b (off+k*3) rfl rfl _ p _ underlying106 rfl cached_size ?_)
   refine (UM l[k] g g2 ff ii _ (hg.ext f) (hg2.ext f)).mono ?_;rintro e w2 ⟨rfl,o⟩;have j:=ae f o;clear o;cases hpk:(Bw ff ii) l[k]
   ·have m:=Lib.hid hpk;clear hpk;go_wp2;go_roundw
    case rel=>exact⟨k+1,by omega,by go_num,j,lN hp.out hlt m.out⟩
    case measure=>simp[intOf];omega
   have d:=Lib.hid (uw (Bw ff ii) l k hlt hp.out hpk);clear hpk;go_wp2;go_ret;exact⟨aU d.out.symm,j⟩
  have d:=Lib.hid (lG (Bw ff ii) l fun i h=>hp.out i h (by omega));go_wp2;go_ret;exact⟨aU d.out.symm,f⟩
theorem Uv {l:List Cc} {f i:Int}:(idx (Bw f i) l<0∧zy l f i=l.length∧Rc l f i=false)∨(∃k,∃hk:k<l.length,idx (Bw f i) l=k∧zy l f i=k∧Rc l f i=(decide (l[k].f=f)&&decide (l[k].i=i))):=by
 unfold idx Rc zy;cases h:l.findIdx? (Bw f i) with
 | none=>exact .inl ⟨by decide,rfl,by simp⟩
 | some k=>
  obtain⟨hk,_,_⟩:=vW.1 h;exact .inr ⟨k,hk,rfl,rfl,by simp[aI hk]⟩
theorem Vk (H:MH) (e f i:Int) (B b:Nat) (w:World) (h:kY w B b H e) :
  Calls Tryz.prog 126 #[.pointer (some ⟨b,0,none⟩),.int .i64 f,.int .i64 i] w fun r w'=>r = .returned (.tuple #[.int .i64 (zy H.ca f i:Int),.bool (Rc H.ca f i)])∧Below w.heap.size w w':=by
 go_enter func126,ntmps126;go_upto_region 1 with (fail);refine qQ (fun W=>Code.wp _ _ _ _ W) fun W0 p n m u => ?_;clear u;have k0:=h.below p;have hc:=k0.blk.cell;unfold uD at hc;have hm:=k0.ma.rd.ca;have v:=hm.mx;have ha:=hm.le;unfold maxLen at v;clear h
 go_wp2_with fail
 refine (QQ H.ca H.ac H.cc _ hm.rd (by omega) _ _ f i n m).mono ?_;rintro r w1 ⟨rfl,d⟩;have a:=ae p d;have k1:=k0.below d;have y:=(n.ext d).cell 0;have x:=(m.ext d).cell 0;have s:=k1.blk.cell;unfold uD at s;have j:=hm.rd.below d;clear hc n m p d k0 hm;rcases Uv (l:=H.ca) (f:=f) (i:=i) with ⟨h1,h2,h3⟩|⟨k,hk,h1,h2,h3⟩
 ·have hq:=Lib.hid (And.intro h2 h3);clear h2 h3;generalize idx (Bw f i) H.ca=z at *
  go_wp2;go_ret2;rw[hq.out.1,hq.out.2];exact⟨rfl,a⟩
 have hq:=Lib.hid (And.intro h2 h3);rw[h1];clear h1 h2 h3;obtain⟨g,off,c,t,o,c0,c1,c2⟩:=VI j k hk;rw[t] at s;have q:H.ca[k]=c:=by rw[aI hk] at o;exact aJ o
 rw[q] at hq;have hb:(k:Int)<(H.ca.length:Int):=by omega
 clear o j t q
 go_wp2_with fail
 by_cases e1:c.f=f
 ·have b1:(c.f==f)=true:=by simpa using e1
  by_cases e2:c.i=i
  ·have b2:(c.i==i)=true:=by simpa using e2
   go_quiet (fail);go_wp2;go_ret2;rw[hq.out.1,hq.out.2];refine⟨by simp[e1,e2],below_drewN a _⟩
  have b2:(c.i==i)=false:=by simpa using e2
  go_quiet (fail);go_wp2;go_ret2;rw[hq.out.1,hq.out.2];refine⟨by simp[e1,e2],below_drewN a _⟩
 have b1:(c.f==f)=false:=by simpa using e1
 go_quiet (fail);go_wp2;go_ret2;rw[hq.out.1,hq.out.2];refine⟨by simp[e1],below_drewN a _⟩
def uC (u:Nat × Int):Array Value:=#[.int .i64 u.1,.int .i64 u.2]
def uL (u:Nat × Int):List Value:=(uC u).toList
theorem VZ (u:Nat × Int):(uL u).length=2:=rfl
theorem us_info:(Tryz.prog.info? 193).map (fun i=>(i.zero,i.size,i.bytes))=some (some (.agg #[.int .i64 0,.int .i64 0]),2,16):=by kernel_rfl
theorem us_size:(Tryz.prog.info? 193).map (·.size)=some 2:=by kernel_rfl
theorem We (u:Nat × Int):∀x∈uL u,x.oneCell' = true:=by
 intro x hx;simp only[uL,uC,bU,fZ,or_false] at hx;rcases hx with rfl|rfl<;>rfl
def sM (m:Ma) (f:Int) (P:Nat):List (Nat × Int):=(List.range P).flatMap fun p=>(oJ (fH m p).tb 1 f).map fun n=>(p,n)
theorem GU (m:Ma) (f:Int) (P:Nat):sM m f (P+1)=sM m f P++(oJ (fH m P).tb 1 f).map fun n=>(P,n):=by
 unfold sM;rw[xR,fu];simp
theorem OA (t:Tb) (kd i:Int):(oJ t kd i).length≤64:=by
 unfold oJ aQ;exact aY (Ba _ _) (sJ t 64)
theorem Dk (m:Ma) (f:Int):∀P,(sM m f P).length≤P*64
 | 0=>by simp[sM]
 | P+1=>by have h1:=Dk m f P;have h2:=OA (fH m P).tb 1 f;rw[GU,jP,eH];omega
theorem NC (H:MH) (e f:Int) (B b:Nat) (w:World) (h:kY w B b H e) (hz:H.sp.length≤1000) :
  Calls Tryz.prog 125 #[.pointer (some ⟨b,0,none⟩),.int .i64 f] w fun r w' => ∃v,r = .returned v∧Own w' w.heap.size 193 2 v (bq H.ma f).length ((bq H.ma f).flatMap uL)∧Below w.heap.size w w':=by
 go_enter func125,ntmps125;have hc:=h.blk.cell;unfold uD at hc;go_upto_region 3 with (fail);clear hc
 go_loopw [5,15] (fun s5 s15 wr => ∃P:Nat,P≤H.sp.length∧s15 = .int .i64 P∧Own wr w.heap.size 193 2 s5 (sM H.ma f P).length ((sM H.ma f P).flatMap uL)∧Below w.heap.size w wr) (fun _ s15 _=>H.sp.length-(intOf s15).toNat)
 case atStart=>exact⟨0,aW _,rfl,Own.nil _ _ _ _,Below.refl _ _⟩
 case round=>
  obtain⟨P,hP,rfl,a,c⟩:=hrel
  by_cases hlt:P<H.sp.length
  ·obtain⟨S,hS⟩:∃S,H.sp[P]?=some S:=⟨_,aI hlt⟩;have hb:=Lib.hid (yI hS);have kr:=h.below c;obtain⟨g,off,hp,hi,hd,m⟩:=kr.at hS;have hc:=kr.blk.cell;unfold uD at hc;rw[hp] at hc;have hq:(P:Int)<(H.sp.length:Int):=by omega
   go_wp2_with (refine ax _ _ rfl g (off+P*10+2) rfl rfl _ hd _ underlying53 tab_agg tab_size ?_)
   refine (Rb S.tb (nG S.ts) 1 f _ m.tb).mono ?_;rintro r w1 ⟨v1,rfl,x,ha⟩;obtain⟨a1,c1,rfl,_⟩:=x.rd;have q:=x.mono (aW _);have s:=ae c ha;have d:=a.below ha;have hs:(oJ S.tb 1 f).length≤64:=OA _ _ _;have hm:Hid (oJ (fH H.ma P).tb 1 f=oJ S.tb 1 f):=Lib.hid (by rw[hb.out];rfl);have hr:=Dk H.ma f P;generalize oJ S.tb 1 f=L at *
   clear hc hi hd m kr a ha x;go_upto_region 6 with (fail)
   go_loopw [5,30] (fun s5 s30 wr => ∃j:Nat,j≤L.length∧s30 = .int .i64 j∧Own wr w.heap.size 193 2 s5 (sM H.ma f P++(L.take j).map fun n=>(P,n)).length ((sM H.ma f P++(L.take j).map fun n=>(P,n)).flatMap uL)∧Below w.heap.size w wr∧Own wr 0 3 1 (.slice a1 L.length c1) L.length (L.map gB)) (fun _ s30 _=>L.length-(intOf s30).toNat)
   case atStart=>exact⟨0,aW _,rfl,by simpa using d,s,q⟩
   case round=>
    clear d s q;obtain⟨j,hj,rfl,a,c,p⟩:=hrel
    by_cases hjl:j<L.length
    ·obtain⟨_,_,e9,_,_,_,hf⟩:=p.rd;cases e9;obtain⟨bl,ol,rfl,hn⟩:=jD hf j hjl;have hl:(j:Int)<(L.length:Int):=by omega
     have hh:(sM H.ma f P++(L.take j).map fun n=>(P,n)).length=(sM H.ma f P).length+j:=by rw[jP,eH,kK];omega
     have t:Hid (sM H.ma f P++(L.take (j+1)).map (fun n=>(P,n))=(sM H.ma f P++(L.take j).map fun n=>(P,n))++[(P,L[j])]):=Lib.hid (by rw[mf,aI hjl,gz,iw];rfl);generalize sM H.ma f P++(L.take j).map (fun n=>(P,n))=us at *
     go_wp2_with (at_builtin;(refine fe rfl _ _ 191 rfl w.heap.size 193 (.agg #[.int .i64 0,.int .i64 0]) 2 16 underlying191 us_info rfl (by decide) _ _ _ rfl (a.alloc _) (some ⟨_,0,none⟩) 1 1 (uL (P,L[j])) rfl (fun h=>(by cases h)) (az _) rfl (dI.new _ (uC (P,L[j])) _) (We _) (by unfold maxLen;omega) (by omega) (cK c.size _) ?_))
     intro v2 w2 u l;have z:=(c.alloc c.size (.cells (uC (P,L[j])) 193)).grown l (cK c.size _) (fun k hk=>a.ge k hk);have hg:=Ac (p.alloc (.cells (uC (P,L[j])) 193)) (a.alloc (.cells (uC (P,L[j])) 193)) (by decide) l;have y:(us++[(P,L[j])]).length=us.length+1:=by simp
     clear hn hf a c p l;go_wp2;go_roundw
     case rel=>exact⟨j+1,by omega,by go_num,by rw[t.out,y,fu,hh];simpa using u,z,hg⟩
     case measure=>simp[intOf];omega
    have hl:¬(j:Int)<(L.length:Int):=by omega
    have o:Hid (sM H.ma f P++(L.take j).map (fun n=>(P,n))=sM H.ma f (P+1)):=Lib.hid (by rw[iJ (by omega),GU,hm.out]);clear p;go_wp2;go_roundw
    case rel=>
     have i:=a;rw[o.out] at i;exact⟨u5,.int .i64 (P:Int),u8,.int .i64 ((P:Int)+1),⟨P+1,by omega,by go_num,i⟩,rfl,rfl,rfl,rfl⟩
    case measure=>simp[intOf];omega
  have o:Hid (sM H.ma f P=bq H.ma f):=Lib.hid (by
   have:P=H.sp.length:=by omega
   unfold sM bq MH.ma;simp[this])
  have hq:¬(P:Int)<(H.sp.length:Int):=by omega
  go_wp2;go_ret;rw[←o.out];exact⟨_,rfl,a,c⟩
theorem kY.frame {e:Int} (h:kY w B b H e) (hf:f<H.m.fs.length) :
  ∃g off cur,H.af=some ⟨g,off,none⟩∧B≤g∧aA w g cur 81∧off+f*13+13≤cur.size∧dI w (some ⟨g,off+f*13,none⟩) (qz (aR H.ma f))∧(∀j u,(qz (aR H.ma f))[j]?=some u→cur[off+f*13+j]?=some u)∧b≠g ∧
   ∀(w' : World) (x:Fr),aA w' g (bD cur (off+f*13) (qz x)) 81→w.grownBy w' (some g)→kY w' B b { H with m:=⟨H.m.fs.set f x,H.m.hand⟩ } e:=by
 have r:H.m.fs[f]=aR H.ma f:=by have:H.m.fs[f]?=some (aR H.ma f):=yQ (m:=H.ma) (f:=f) hf;rw[aI hf] at this;exact aJ this
 obtain⟨g,off,cap,cur,hv,hB,a,l,i⟩:=mF eZ (by decide) rfl h.ma.fr f hf;simp only[mi] at hv;obtain⟨p,_,s⟩:=hv;have k:=h.ma.fr;rw[p] at k;have d:=BL k a;have o:∀j u,(qz (aR H.ma f))[j]?=some u→cur[off+f*13+j]?=some u:=fun j u hj=>by rw[mY];exact d _ _ (flat_get qz 13 eZ H.m.fs f hf j u (by rw[r];exact hj))
 have n:b≠g:=fun e=>by have h1:=h.blk;subst e;unfold aA at h1 a;rw[h1] at a;simp only[jg,tO] at a;exact absurd a.2.1 (by decide)
 refine⟨g,off,cur,p,hB,a,l,fun j u hj=>⟨g,_,rfl,by rw[a.cell];exact o j u hj⟩,o,n,fun w' x hb hg => ?_⟩;have c:(H.m.fs.set f x).length=H.m.fs.length:=bP;refine⟨?_,h.ge,⟨?_,ak h.ma.sl a (by decide) hg,h.ma.sw.keep a (by decide) (by decide) hg,h.ma.dk.keep a (by decide) (by decide) hg,h.ma.st.keep a (by decide) (by decide) hg,ak h.ma.ca a (by decide) hg,ak h.ma.sp a (by decide) hg,fun q hq=>⟨ak (h.ma.ps q hq).1 a (by decide) hg,(h.ma.ps q hq).2.keep a (by decide) hg⟩,h.ma.c64⟩,h.tz⟩
 ·have:uD { H with m:=⟨H.m.fs.set f x,H.m.hand⟩ } e=uD H e:=by unfold uD;simp only[c]
  rw[this];exact h.blk.grown hg (fun e=>n (aJ e).symm)
 simp only[c];exact i w' _ hb
theorem putAt_one {o:Nat}:∀ {vs:List Value} {j:Nat} {v:Value},(∀i u,vs[i]?=some u→cur[o+i]?=some u)→j<vs.length→bD cur o (vs.set j v)=cur.setIfInBounds (o+j) v:=by
 intro vs j v b hj;apply mr;intro i;rw[Bb];have a:∀k,k<vs.length→o+k<cur.size:=fun k hk=>(iB.1 (b k _ (aI hk))).1
 by_cases h1:i<o∨o+vs.length≤i
 ·rw[putAt_out _ _ _ _ (by rw[bP];omega),if_neg (by omega)]
 have hi:i-o<vs.length:=by omega
 have:=putAt_in (vs.set j v) cur o (i-o) ((vs.set j v)[i-o]'(by rw[bP];exact hi)) (by rw[bP];have:=a (vs.length-1) (by omega);omega) (aI _);rw[show o+(i-o)=i by omega] at this;rw[this,CQ]
 by_cases e:j=i-o
 ·rw[if_pos e,if_pos (by omega),if_pos (by have:=a j hj;omega)]
 rw[if_neg e,if_neg (by omega)];have:=b (i-o) _ (aI hi);rw[show o+(i-o)=i by omega] at this;exact this.symm
theorem Jl (s:St) (f i:Int):(dO s f i).count=s.count∨(dO s f i).count=0:=by
 unfold dO;split
 ·exact .inr rfl
 split
 ·exact .inl rfl
 ·exact .inl rfl
theorem TG {o:Nat} (m:World→Prop) (h:∀W,w.grownBy W (some b)→(∀ {cur T},aA w b cur T→aA W b (bD cur o vs) T)→m W):m (w.setCells b o vs).drew:=by
 have h1:=aH w b o vs;exact h _ ⟨h1.os,h1.tape,h1.output,h1.size,h1.block⟩ fun hb=>hb.setCells vs o
theorem MV : (Tryz.prog.info? 4).map (·.size)=some 1:=by kernel_rfl
def Pn (B:Nat) (S:St) (N E:Int):lT:=⟨fun v w => ∃u ps k,v = .tuple #[.agg #[u,.int .i64 k],.int .i64 N,.int .i64 E]∧nM w B u ps∧cZ ps k=S,fun _ _ _ hb ⟨u,ps,k,h1,h2,h3⟩=>⟨u,ps,k,h1,h2.below hb,h3⟩⟩
def Cu (B:Nat) (d:oD) (E:Int):lT:=⟨fun v w => ∃a b,v = .tuple #[.agg #[a,b],.int .i64 E]∧iE w B a b d,fun _ _ _ hb ⟨a,b,h1,h2⟩=>⟨a,b,h1,h2.below hb⟩⟩
theorem zi (H:MH) (e:Int) (f:Nat) (B b:Nat) (w:World) (h:kY w B b H e) (hf:f<H.m.fs.length) :
  Calls Tryz.prog 57 #[.pointer (some ⟨b,0,none⟩),.int .i64 f] w fun r w'=>r = .returned (.bool (iI H.ma f))∧KR w B b H w' (gU ⟨H.ma,e⟩ f):=by
 obtain⟨g,off,cur,h2,gg,hi,kZ,kx,hG,gf,kh⟩:=h.frame hf;generalize hx:aR H.ma f=x at *
 have hg:=Lib.hid hx;clear hx kh;have hc:=h.blk.cell;unfold uD at hc;rw[h2] at hc;have ge:(f:Int)<(H.m.fs.length:Int):=by omega
 have q10:cur[off+f*13+10]?=some (.bool x.d):=hG 10 _ rfl;have q11:cur[off+f*13+11]?=some (.int .i64 x.f):=hG 11 _ rfl;have q12:cur[off+f*13+12]?=some (.int .i64 x.i):=hG 12 _ rfl;have kC:=hi.cell;have kA:=hi.free;have k1:=Lib.hid hG;clear hG;go_enter func57,ntmps57
 by_cases h1:x.f<0
 ·have hq:Hid (gU ⟨H.ma,e⟩ f=⟨H.ma,e⟩):=Lib.hid (by unfold gU;simp only[hg.out];rw[if_pos (.inl h1)]);have hl:Hid (iI H.ma f=true):=Lib.hid (by unfold iI;rw[hg.out];simp[h1]);have hh:=Lib.hid h;clear h;go_wp2;go_ret;rw[hq.out,hl.out];exact⟨rfl,_,_,hh.out,KS.refl _ _ _,rfl⟩
 cases hd:x.d with
 | false=>
  have hq:Hid (gU ⟨H.ma,e⟩ f=⟨H.ma,e⟩):=Lib.hid (by unfold gU;simp only[hg.out];rw[if_pos (.inr (.inl hd))]);have hl:Hid (iI H.ma f=true):=Lib.hid (by unfold iI;rw[hg.out,hd];simp);rw[hd] at q10;have hh:=Lib.hid h;clear h;go_wp2;go_ret;rw[hq.out,hl.out];exact⟨rfl,_,_,hh.out,KS.refl _ _ _,rfl⟩
 | true=>
  rw[hd] at q10;go_upto_region 4 with (fail);have hm:=Lib.hid h;refine nA 22 [_,_,_,_,_,_,_,_,_,_,_,_,_,.r 13 ((Pn w.heap.size (dO H.ma.st x.f x.i) (dS H.ma.st x.f x.i) (dz H.ma.st x.f x.i))),.r 14 ((Pn w.heap.size (dO H.ma.st x.f x.i) (dS H.ma.st x.f x.i) (dz H.ma.st x.f x.i))),.r 15 ((LG w.heap.size (dO H.ma.st x.f x.i))),.v (.int .i64 (dS H.ma.st x.f x.i)),.v (.int .i64 (dz H.ma.st x.f x.i)),.r 18 ((kD w.heap.size 37 2)),.y 19 ((SE 18 w.heap.size 37 (LG w.heap.size (dO H.ma.st x.f x.i)))),.v (.int .i64 (dS H.ma.st x.f x.i)),.v (.int .i64 (dz H.ma.st x.f x.i))] (fun W=>Below w.heap.size w W) gP (Below.refl _ _) (Yk gP rfl (Yk gP rfl (Yf gP b 0 rfl rfl (Yf gP b 7 rfl rfl (Yr gP (.agg #[.slice H.ai H.fi.length H.ci,.int .i64 H.ct]) (fun ρ y W hb hH=>(bF rfl (aC rfl hH) (h.below hb).rdS underlying37 rfl store_size)) rfl rfl (Yk gP rfl (Yk gP rfl (Yf gP g (off+f*13+11) rfl rfl (Yc gP (.int .i64 x.f) (fun W hb=>by simp[(hi.ext hb).cell,q11]) rfl rfl rfl rfl (Yk gP rfl (Yk gP rfl (Yf gP g (off+f*13+12) rfl rfl (Yc gP (.int .i64 x.i) (fun W hb=>by simp[(hi.ext hb).cell,q12]) rfl rfl rfl rfl (ag ?_ (ag ?_ (ag ?_ (ag ?_ (ag ?_ (ag ?_ (ag ?_ (Yk gP rfl (Yk gP rfl (aB))))))))))))))))))))))) (fun _=>rfl) rfl ?_
  ·intro ρ y W hw hn hb hd;refine mh gP hb ((Pn w.heap.size (dO H.ma.st x.f x.i) (dS H.ma.st x.f x.i) (dz H.ma.st x.f x.i))) (fun _ _ h=>h) ?_;have kV:=hw 35 4 rfl;have h4:y 4 = .agg #[.slice H.ai H.fi.length H.ci,.int .i64 H.ct]:=hd 4 rfl;have kU:=hw 39 8 rfl;have h8:y 8 = .int .i64 x.f:=hd 8 rfl;have kT:=hw 43 12 rfl;have h3:y 12 = .int .i64 x.i:=hd 12 rfl;have EF:∀f,ρ (.func f) = .func (.func f) #[] #[]:=fun f=>hn (.func f) trivial;refine aL _ _ (ah rfl) (aO rfl (EF _) func91 (by kernel_rfl) (by kernel_rfl) (by simp only[bH,bA,bB,kV,h4,kU,h8,kT,h3,EF];rfl)) ?_;refine (Ny H.fi H.ct x.f x.i H.ai H.ci W (h.below hb).ma.rd.st h.ma.c64).mono ?_;rintro r W2 ⟨u,ps,k,rfl,ho,hB,kG⟩;exact⟨_,rfl,kG,u,ps,k,rfl,ho.mono hb.size,hB⟩
  ·intro ρ y W hw hn hb hd;refine mh gP hb ((Pn w.heap.size (dO H.ma.st x.f x.i) (dS H.ma.st x.f x.i) (dz H.ma.st x.f x.i))) (fun _ _ h=>h) ?_;have kS:=hw 44 13 rfl;have kJ:=hd 13 rfl;refine aj _ (ah rfl) (run_move (.inl rfl) kS) ?_;exact kJ
  ·intro ρ y W hw hn hb hd;refine mh gP hb ((LG w.heap.size (dO H.ma.st x.f x.i))) (fun _ _ h=>h) ?_;have hI:=hw 30 14 rfl;have hp:=hd 14 rfl;obtain⟨u,ps,k,hu,ho,hB⟩:=hp;refine aj (.agg #[u,.int .i64 k]) (ah rfl) (by simp[execOp,go_sem,dm,hI,hu]) ?_;exact⟨u,ps,k,rfl,ho,hB⟩
  ·intro ρ y W hw hn hb hd;refine mh gP hb (ve (.int .i64 (dS H.ma.st x.f x.i))) (fun _ _ h=>h) ?_;have hI:=hw 30 14 rfl;have hp:=hd 14 rfl;obtain⟨u,ps,k,hu,ho,hB⟩:=hp;refine aj (.int .i64 (dS H.ma.st x.f x.i)) (ah rfl) (by simp[execOp,go_sem,dm,hI,hu]) rfl
  ·intro ρ y W hw hn hb hd;refine mh gP hb (ve (.int .i64 (dz H.ma.st x.f x.i))) (fun _ _ h=>h) ?_;have hI:=hw 30 14 rfl;have hp:=hd 14 rfl;obtain⟨u,ps,k,hu,ho,hB⟩:=hp;refine aj (.int .i64 (dz H.ma.st x.f x.i)) (ah rfl) (by simp[execOp,go_sem,dm,hI,hu]) rfl
  ·intro ρ y W hw hn hb hd;refine mh gP hb ((kD w.heap.size 37 2)) (fun _ _ h=>h) ?_;refine jT (.pointer (some ⟨W.heap.size,0,none⟩)) (ah rfl) (by simp[execOp,go_sem,dm]) ((Below.refl _ _).alloc (az _) (.cells #[.slice none 0 0,.int .i64 0] 37)) ?_;exact⟨_,_,rfl,hb.size,aA.new _ _ _,rfl⟩
  ·intro ρ y W hw hn hb hd;have E6:=hw 6 18 rfl;have kH:=hd 18 rfl;have kR:=hw 45 15 rfl;have kI:=hd 15 rfl;obtain⟨u,ps,k,e7,ht,kg⟩:=kI;obtain⟨g3,cur3,e9,hF,l,hC⟩:=kH;obtain⟨au,cu,rfl,_⟩:=ht.rd;refine sD (ah rfl) _ _ _ rfl g3 0 (.agg #[.slice au ps.length cu,.int .i64 k]) [.slice au ps.length cu,.int .i64 k] (E6.trans e9) (kR.trans e7) rfl cur3 _ l (by rw[hC];exact az _) store_size (bV (sK _ _ _ _)) ?_;intro w1 hj a;rw[show [Value.slice au ps.length cu,Value.int .i64 k]=(#[Value.slice au ps.length cu,Value.int .i64 k]:Array Value).toList from rfl,iF cur3 _ (by rw[hC];rfl)] at hj;refine⟨hb.grown a hb.size (fun k hk=>by cases hk;exact hF),⟨g3,_,e9,hF,hj,⟨_,ps,k,rfl,ht.keep l (by decide) (by decide) a,kg⟩⟩,?_⟩;intro k hk hX
   match k,hk,hX with
   | 0,_,_=>exact fun h=>h
   | 1,_,_=>exact fun h=>h
   | 2,_,_=>exact fun h=>h
   | 3,_,_=>exact fun h=>h
   | 4,_,_=>exact fun h=>h
   | 5,_,_=>exact fun h=>h
   | 6,_,_=>exact fun h=>h
   | 7,_,_=>exact fun h=>h
   | 8,_,_=>exact fun h=>h
   | 9,_,_=>exact fun h=>h
   | 10,_,_=>exact fun h=>h
   | 11,_,_=>exact fun h=>h
   | 12,_,_=>exact fun h=>h
   | 13,_,_=>exact fun⟨c,q0,q1,q2,q3,q4⟩=>⟨c,q0,q1,q2,q3.keep l (by decide) (by decide) a,q4⟩
   | 14,_,_=>exact fun⟨c,q0,q1,q2,q3,q4⟩=>⟨c,q0,q1,q2,q3.keep l (by decide) (by decide) a,q4⟩
   | 15,_,_=>exact fun⟨c,q0,q1,q2,q3,q4⟩=>⟨c,q0,q1,q2,q3.keep l (by decide) (by decide) a,q4⟩
   | 16,_,_=>exact fun h=>h
   | 17,_,_=>exact fun h=>h
   | 18,_,_=>exact fun q=>pW q hj (fun _=>rfl) ⟨_,l⟩ a
   | 19,_,h=>exact absurd rfl h
   | 20,_,_=>exact fun h=>h
   | 21,_,_=>exact fun h=>h
   | n+22,h,_=>exact absurd h (by omega)
  intro y W2 t ha;replace t:Below w.heap.size w W2:=t;have kc:((Pn w.heap.size (dO H.ma.st x.f x.i) (dS H.ma.st x.f x.i) (dz H.ma.st x.f x.i))).r (y 13) W2:=ha 13 (by decide);have hA:((Pn w.heap.size (dO H.ma.st x.f x.i) (dS H.ma.st x.f x.i) (dz H.ma.st x.f x.i))).r (y 14) W2:=ha 14 (by decide);have hz:((LG w.heap.size (dO H.ma.st x.f x.i))).r (y 15) W2:=ha 15 (by decide);have kb:((kD w.heap.size 37 2)).r (y 18) W2:=ha 18 (by decide);have ka:=ha 19 (by decide);clear ha;simp only[cz,dm,bA,bB];obtain⟨gs,cs,ga,kk,ko,us,ps,ks,hL,hW,hN⟩:=ka;simp only[Dj] at hL;subst hL;obtain⟨au,cu,rfl,_⟩:=hW.rd;have k2:=h.below t;have s2:=(KS.refl w b H).below t;have h0:=hi.ext t;have hD:=kx.below t;have kX:=Lib.hid kk;clear kc hA hz kb hc kC kA kk
  by_cases hE:dz H.ma.st x.f x.i=0
  ·have hq:Hid (gU ⟨H.ma,e⟩ f=⟨setFr { H.ma with st:=dO H.ma.st x.f x.i,dk:=dE H.dk (dS H.ma.st x.f x.i) x.p } f { x with d:=false },jo e (aN H.dk (dS H.ma.st x.f x.i))⟩):=Lib.hid (by
    unfold gU;simp only[hg.out];rw[if_neg]
    ·rfl
    rintro (q|q|q)
    ·exact h1 q
    ·rw[hd] at q;cases q
    ·exact q hE)
   have hl:Hid (iI H.ma f=true):=Lib.hid (by unfold iI;rw[hg.out,hE];simp);rw[hE];clear hE;have k7:Hid (dz H.ma.st x.f x.i=dz H.ma.st x.f x.i):=Lib.hid rfl;generalize dS H.ma.st x.f x.i=N at *
   go_upto_region 7 with (fail);refine nA 17 [_,_,_,_,_,_,_,_,_,_,.r 10 ((Cu W2.heap.size (dE H.dk N x.p) (aN H.dk N))),.r 11 ((Cu W2.heap.size (dE H.dk N x.p) (aN H.dk N))),.r 12 ((yC W2.heap.size (dE H.dk N x.p))),.v (.int .i64 (aN H.dk N)),.r 14 ((kD W2.heap.size 34 2)),.y 15 ((SE 14 W2.heap.size 34 (yC W2.heap.size (dE H.dk N x.p)))),.v (.int .i64 (aN H.dk N))] (fun W=>Below W2.heap.size W2 W) gP (Below.refl _ _) (Yk gP rfl (Yk gP rfl (Yf gP b 0 rfl rfl (Yf gP b 5 rfl rfl (Yr gP (.agg #[.slice H.db H.dk.blocks.length H.cdb,.slice H.dq H.dk.queue.length H.cdq]) (fun ρ y W hb hH=>(bF rfl (aC rfl hH) (k2.below hb).rdD underlying34 rfl disk_size)) rfl rfl (Yk gP rfl (Yk gP rfl (Yk gP rfl (Yf gP g (off+f*13) rfl rfl (Yr gP (.agg (fQ x.p)) (fun ρ y W hb hH=>(bF rfl (aC rfl hH) (rQ (hD.below hb) 0 8) underlying79 rfl psize)) rfl rfl (ag ?_ (ag ?_ (ag ?_ (ag ?_ (ag ?_ (ag ?_ (Yk gP rfl (aB)))))))))))))))))) (fun _=>rfl) rfl ?_
   ·intro ρ y W hw hn hb hd;refine mh gP hb ((Cu W2.heap.size (dE H.dk N x.p) (aN H.dk N))) (fun _ _ h=>h) ?_;have kQ:=hw 55 4 rfl;have h4:y 4 = .agg #[.slice H.db H.dk.blocks.length H.cdb,.slice H.dq H.dk.queue.length H.cdq]:=hd 4 rfl;have kO:=hw 56 5 rfl;have h5:y 5 = .int .i64 N:=hd 5 rfl;have kN:=hw 60 9 rfl;have h9:y 9 = .agg (fQ x.p):=hd 9 rfl;have EF:∀f,ρ (.func f) = .func (.func f) #[] #[]:=fun f=>hn (.func f) trivial;refine aL _ _ (ah rfl) (aO rfl (EF _) func92 (by kernel_rfl) (by kernel_rfl) (by simp only[bH,bA,bB,kQ,h4,kO,h5,kN,h9,EF];rfl)) ?_;refine (DR H.dk N x.p H.db H.cdb H.dq H.cdq W (k2.below hb).ma.rd.dk).mono ?_;rintro r W3 ⟨vb,vq,rfl,ho,kF⟩;exact⟨_,rfl,kF,vb,vq,rfl,ho.mono hb.size⟩
   ·intro ρ y W hw hn hb hd;refine mh gP hb ((Cu W2.heap.size (dE H.dk N x.p) (aN H.dk N))) (fun _ _ h=>h) ?_;have kM:=hw 61 10 rfl;have kK:=hd 10 rfl;refine aj _ (ah rfl) (run_move (.inl rfl) kM) ?_;exact kK
   ·intro ρ y W hw hn hb hd;refine mh gP hb ((yC W2.heap.size (dE H.dk N x.p))) (fun _ _ h=>h) ?_;have h7:=hw 50 11 rfl;have h6:=hd 11 rfl;obtain⟨vb,vq,hu,ho⟩:=h6;refine aj (.agg #[vb,vq]) (ah rfl) (by simp[execOp,go_sem,dm,h7,hu]) ?_;exact⟨vb,vq,rfl,ho⟩
   ·intro ρ y W hw hn hb hd;refine mh gP hb (ve (.int .i64 (aN H.dk N))) (fun _ _ h=>h) ?_;have h7:=hw 50 11 rfl;have h6:=hd 11 rfl;obtain⟨vb,vq,hu,ho⟩:=h6;refine aj (.int .i64 (aN H.dk N)) (ah rfl) (by simp[execOp,go_sem,dm,h7,hu]) rfl
   ·intro ρ y W hw hn hb hd;refine mh gP hb ((kD W2.heap.size 34 2)) (fun _ _ h=>h) ?_;refine jT (.pointer (some ⟨W.heap.size,0,none⟩)) (ah rfl) (by simp[execOp,go_sem,dm]) ((Below.refl _ _).alloc (az _) (.cells #[.slice none 0 0,.slice none 0 0] 34)) ?_;exact⟨_,_,rfl,hb.size,aA.new _ _ _,rfl⟩
   ·intro ρ y W hw hn hb hd;have E9:=hw 9 14 rfl;have hp:=hd 14 rfl;have kL:=hw 62 12 rfl;have h3:=hd 12 rfl;obtain⟨vb,vq,e7,ht⟩:=h3;obtain⟨g3,cur3,e9,hF,l,hC⟩:=hp;obtain⟨ab,cb,rfl,_⟩:=ht.b.rd;obtain⟨aq,cq,rfl,_⟩:=ht.q.rd;refine sD (ah rfl) _ _ _ rfl g3 0 (.agg #[.slice ab _ cb,.slice aq _ cq]) [.slice ab _ cb,.slice aq _ cq] (E9.trans e9) (kL.trans e7) rfl cur3 _ l (by rw[hC];exact az _) disk_size (bV (kP _ _ _ _ _ _)) ?_;intro w1 hj a;rw[show ∀(p q:Value),[p,q]=(#[p,q]:Array Value).toList from fun _ _=>rfl,iF cur3 _ (by rw[hC];rfl)] at hj;refine⟨hb.grown a hb.size (fun k hk=>by cases hk;exact hF),⟨g3,_,e9,hF,hj,⟨_,_,rfl,ht.keep l (by decide) (by decide) a⟩⟩,?_⟩;intro k hk hX
    match k,hk,hX with
    | 0,_,_=>exact fun h=>h
    | 1,_,_=>exact fun h=>h
    | 2,_,_=>exact fun h=>h
    | 3,_,_=>exact fun h=>h
    | 4,_,_=>exact fun h=>h
    | 5,_,_=>exact fun h=>h
    | 6,_,_=>exact fun h=>h
    | 7,_,_=>exact fun h=>h
    | 8,_,_=>exact fun h=>h
    | 9,_,_=>exact fun h=>h
    | 10,_,_=>exact fun⟨c,q0,q1,q2⟩=>⟨c,q0,q1,q2.keep l (by decide) (by decide) a⟩
    | 11,_,_=>exact fun⟨c,q0,q1,q2⟩=>⟨c,q0,q1,q2.keep l (by decide) (by decide) a⟩
    | 12,_,_=>exact fun⟨c,q0,q1,q2⟩=>⟨c,q0,q1,q2.keep l (by decide) (by decide) a⟩
    | 13,_,_=>exact fun h=>h
    | 14,_,_=>exact fun q=>pW q hj (fun _=>rfl) ⟨_,l⟩ a
    | 15,_,h=>exact absurd rfl h
    | 16,_,_=>exact fun h=>h
    | n+17,h,_=>exact absurd h (by omega)
   intro y W3 s z;replace s:Below W2.heap.size W2 W3:=s;have kf:((Cu W2.heap.size (dE H.dk N x.p) (aN H.dk N))).r (y 10) W3:=z 10 (by decide);have ke:((Cu W2.heap.size (dE H.dk N x.p) (aN H.dk N))).r (y 11) W3:=z 11 (by decide);have kd:((yC W2.heap.size (dE H.dk N x.p))).r (y 12) W3:=z 12 (by decide);have hA:((kD W2.heap.size 34 2)).r (y 14) W3:=z 14 (by decide);have hz:=z 15 (by decide);clear z;simp only[cz,dm,bA,bB];obtain⟨gd,cd,gb,gc,kp,vb,vq,hM,hJ⟩:=hz;simp only[Dj] at hM;subst hM;obtain⟨ab,cb,rfl,_⟩:=hJ.b.rd;obtain⟨aq,cq,rfl,_⟩:=hJ.q.rd;have k3:=k2.below s;have s3:=s2.below s;have hS:=ko.ext s;have hR:=hW.below s;have kw:=Lib.hid s2.size;have ki:=hD.below s;clear kf ke kd hA k2 s2 h0 ko hW s hD
   go_wp2_with fail
   refine (vo _ e (aN H.dk N) _ _ _ k3).mono ?_;rintro r w4 ⟨rfl,k4,hv⟩;have s4:=s3.putB hv rfl rfl rfl;have hP:=hJ.keep k3.blk (by decide) (by decide) hv;have hQ:=hR.keep k3.blk (by decide) (by decide) hv;have hr:=bu hS k3.blk (by decide) hv;have hs:=bu kp k3.blk (by decide) hv;clear k3 s3 hJ hR hS kp hv ki;have kn:=k4.blk.cell;have kB:=k4.blk.free;unfold uD at kn;have hL:=hr.cell;have hM:=hs.cell;have n1:=mo k4.blk hr (by decide);have n2:=mo k4.blk hs (by decide);have n3:=mo hr hs (by decide);go_upto_region 9 with (fail)
   go_region
   refine TG (w:=w4.setCells b 7 [.slice au ps.length cu,.int .i64 ks]) (b:=b) (o:=5) (vs:=[.slice ab (dE H.dk N x.p).blocks.length cb,.slice aq (dE H.dk N x.p).queue.length cq]) (fun W=>Exit.then _ _ _ _ W) fun w6 hY kr => ?_;have km : -9223372036854775808≤ks∧ks≤9223372036854775807:=by
    have e1:ks=(dO H.ma.st x.f x.i).count:=by rw[←hN];rfl
    have e2:=h.ma.c64;have e3:H.ma.st.count=H.ct:=rfl;rcases Jl H.ma.st x.f x.i with e4|e4<;>rw[e1,e4]<;>omega
   have hK:=aH w4 b 7 [.slice au ps.length cu,.int .i64 ks];have kt:=k4.blk.setCells [.slice au ps.length cu,.int .i64 ks] 7;have k5:=k4.setS (hQ.mono h.bs) km kt hK;have s5:=s4.putB (H':={ H with ai:=au,ci:=cu,fi:=ps,ct:=ks }) hK rfl rfl rfl;have hO:=hP.keep k4.blk (by decide) (by decide) hK;have hT:=kr k5.blk;have k6:=k5.setD (hO.mono (aY h.bs kw.out)) hT hY;have s6:=s5.putB (H':={ H with ai:=au,ci:=cu,fi:=ps,ct:=ks,db:=ab,cdb:=cb,dq:=aq,cdq:=cq,dk:=dE H.dk N x.p }) hY rfl rfl rfl;clear kr hT hY k5 s5 hO kt hK km k4 s4 hP hQ kn kB hL hM hr hs;obtain⟨g7,off7,cur7,ku,k9,hZ,kz,kW,hU,k0,hV⟩:=k6.frame hf;have ky:g7=g∧off7=off:=by have:H.af=some ⟨g7,off7,none⟩:=ku;rw[h2] at this;simp only[jg,vJ,and_true] at this;exact⟨this.1.symm,this.2.symm⟩
   obtain⟨rfl,rfl⟩:=ky;have kv:aR (MH.ma { H with ai:=au,ci:=cu,fi:=ps,ct:=ks,db:=ab,cdb:=cb,dq:=aq,cdq:=cq,dk:=dE H.dk N x.p }) f=x:=hg.out;rw[kv] at hU;have kj:=putAt_one (v:=.bool false) (j:=10) hU (by rw[eZ];decide)
   go_wp2_with (refine aD rfl _ _ _ rfl g7 (off7+f*13+10) _ [.bool false] rfl rfl rfl _ _ hZ (by simp;omega) MV (fun u hu=>by cases bv.1 hu;rfl) ?_)
   intro w8 kE kl;have kq : aA w8 g7 (bD cur7 (off7+f*13) (qz { x with d:=false })) 81:=by have e1:qz { x with d:=false }=(qz x).set 10 (.bool false):=rfl;rw[e1,kj];exact kE
   have k8:=hV w8 { x with d:=false } kq kl;have s8:=s6.put (H':={ H with ai:=au,ci:=cu,fi:=ps,ct:=ks,db:=ab,cdb:=cb,dq:=aq,cdq:=cq,dk:=dE H.dk N x.p,m:=⟨H.m.fs.set f { x with d:=false },H.m.hand⟩ }) kl (.inr (.inl (by show oB H.af=_;rw[h2];rfl))) fun y hy => .inl (Jc rfl rfl rfl hy);go_wp2;go_ret;rw[hq.out,hl.out];refine⟨rfl,_,_,k8,s8,?_⟩;unfold MH.ma setFr;simp only[hN];rfl
  have hq:Hid (gU ⟨H.ma,e⟩ f=⟨H.ma,e⟩):=Lib.hid (by unfold gU;simp only[hg.out];rw[if_pos (.inr (.inr hE))]);have hl:Hid (iI H.ma f=false):=Lib.hid (by unfold iI;rw[hg.out];simp only[zJ,decide_eq_false_iff_not,Bool.not_eq_false'];exact⟨⟨h1,hd⟩,hE⟩);go_wp2;go_ret;rw[hq.out,hl.out];exact⟨rfl,_,_,k2,s2,rfl⟩
theorem Pb (k:Kp) (p:Nat) (n:Int) (x:En):(jV k p n x).m.sp.length=k.m.sp.length:=by
 unfold jV;split
 ·exact uR
 ·rfl
theorem PD (k:Kp) (p:Nat) (n:Int) (x:En):(jV k p n x).m.ca=k.m.ca:=by unfold jV;split<;>rfl
theorem Ph (k:Kp) (p:Nat) (n:Int) (x:En):(jV k p n x).m.m=k.m.m:=by unfold jV;split<;>rfl
theorem QO (k:Kp) (f n:Int):(iM k f n).m.sp=k.m.sp:=by unfold iM;split<;>rfl
theorem Qs (k:Kp) (f n:Int):(iM k f n).m.ca=k.m.ca:=by unfold iM;split<;>rfl
theorem PW (k:Kp) (f n:Int):(iM k f n).m.m.fs.length=k.m.m.fs.length:=by
 unfold iM;split
 ·rename_i h;show (lK k.m.m f n).fs.length=_;unfold lK;rw[if_pos h];exact bP
 ·rfl
theorem QC (k:Kp) (f n:Int):(pq k f n).m.sp=k.m.sp:=by unfold pq;split<;>rfl
theorem Qe (k:Kp) (f n:Int):(pq k f n).m.ca=k.m.ca:=by unfold pq;split<;>rfl
theorem Pe (k:Kp) (f n:Int):(pq k f n).m.m=k.m.m:=by unfold pq;split<;>rfl
structure jQ (k k' : Kp):Prop where
 sp:k'.m.sp.length=k.m.sp.length
 ca:k'.m.ca=k.m.ca
 fs:k'.m.m.fs.length=k.m.m.fs.length
theorem jQ.refl (k:Kp):jQ k k:=⟨rfl,rfl,rfl⟩
theorem jQ.trans {a b c:Kp} (h:jQ a b) (k:jQ b c):jQ a c:=⟨k.sp.trans h.sp,k.ca.trans h.ca,k.fs.trans h.fs⟩
theorem jQ.enter (k:Kp) (p:Nat) (n:Int) (x:En):jQ k (jV k p n x):=⟨Pb k p n x,PD k p n x,by rw[Ph]⟩
theorem jQ.hold (k:Kp) (f n:Int):jQ k (iM k f n):=⟨by rw[QO],Qs k f n,PW k f n⟩
theorem jQ.shold (k:Kp) (f n:Int):jQ k (pq k f n):=⟨by rw[QC],Qe k f n,by rw[Pe]⟩
theorem jQ.drop (k:Kp) (p:Nat) (n:Int):jQ k (qD k p n):=by
 unfold qD;simp only;split
 ·exact (jQ.hold _ _ _).trans (jQ.enter _ _ _ _)
 split
 ·exact (jQ.shold _ _ _).trans (jQ.enter _ _ _ _)
 ·exact .refl _
theorem jQ.drops:∀(l:List (Nat × Int)) (k:Kp),jQ k (kL k l)
 | [],k => .refl k
 | u::l,k=>(jQ.drop k u.1 u.2).trans (jQ.drops l _)
theorem jQ.swap (f n:Int) (k:Kp) (u:Nat × Int):jQ k (GY f n k u):=(jQ.hold _ _ _).trans (jQ.enter _ _ _ _)
theorem jQ.swaps (f n:Int):∀(l:List (Nat × Int)) (k:Kp),jQ k (sF k f n l)
 | [],k => .refl k
 | u::l,k=>(jQ.swap f n k u).trans (jQ.swaps f n l _)
theorem jQ.clean (k:Kp) (f:Nat):jQ k (gU k f):=by
 unfold gU;simp only;split
 ·exact .refl _
 ·exact⟨rfl,rfl,bP⟩
theorem NI (k:Kp) (l:List (Nat × Int)) (j:Nat) (h:j<l.length):kL k (l.take (j+1))=qD (kL k (l.take j)) l[j].1 l[j].2:=by
 unfold kL;rw[mf,aI h,CY];rfl
theorem LJ (k:Kp) (f n:Int) (l:List (Nat × Int)) (j:Nat) (h:j<l.length):sF k f n (l.take (j+1))=GY f n (sF k f n (l.take j)) l[j]:=by
 unfold sF;rw[mf,aI h,CY];rfl
theorem nM.stay (h:nM w B v ps) (hg:w.grownBy w' none):nM w' B v ps:=⟨kG h.own hg,fun k p hp=>kG (h.each k p hp) hg,h.apart⟩
theorem qZ.stay {t:Tb} (h:qZ w B cs t) (hg:w.grownBy w' none):qZ w' B cs t:=
 ⟨h.sz,fun k hk=>by obtain⟨v,h1,h2⟩:=h.own k hk;exact⟨v,h1,kG h2 hg⟩,h.apart⟩
theorem kY.cache {e:Int} (h:kY w B b H e) (s:KS w0 b H0 w H) (hg:w.grownBy w1 (oB H.ac)) {l:List Cc} (ho:Own w1 B 106 3 (.slice a l.length c) l.length (l.flatMap mE)) (hsn:oB a=oB H.ac∨∀g,oB a=some g→w0.heap.size≤g) :
  aA w1 b (uD H e) 96∧∀w2,aA w2 b (bD (uD H e) 9 [.slice a l.length c]) 96→w1.grownBy w2 (some b)→kY w2 B b { H with ac:=a,cc:=c,ca:=l } e∧KS w0 b H0 w2 { H with ac:=a,cc:=c,ca:=l }:=by
 have hK:aA w1 b (uD H e) 96:=by refine h.blk.grown hg fun e => ?_;obtain⟨_,cs,hb⟩:=iV h.ma.ca e;exact mo h.blk hb (by decide) rfl
 have hm:uz w1 B { H with ac:=a,cc:=c,ca:=l }:=by
  cases hac:oB H.ac with
  | none=>
   rw[hac] at hg;exact⟨kG h.ma.fr hg,kG h.ma.sl hg,⟨kG h.ma.sw.b hg,kG h.ma.sw.q hg⟩,⟨kG h.ma.dk.b hg,kG h.ma.dk.q hg⟩,h.ma.st.stay hg,ho,kG h.ma.sp hg,fun q hq=>⟨kG (h.ma.ps q hq).1 hg,(h.ma.ps q hq).2.stay hg⟩,h.ma.c64⟩
  | some g=>
   rw[hac] at hg;obtain⟨_,cs,hb⟩:=iV h.ma.ca hac;exact⟨ak h.ma.fr hb (by decide) hg,ak h.ma.sl hb (by decide) hg,h.ma.sw.keep hb (by decide) (by decide) hg,h.ma.dk.keep hb (by decide) (by decide) hg,h.ma.st.keep hb (by decide) (by decide) hg,ho,ak h.ma.sp hb (by decide) hg,fun q hq=>⟨ak (h.ma.ps q hq).1 hb (by decide) hg,(h.ma.ps q hq).2.keep hb (by decide) hg⟩,h.ma.c64⟩
 have s1:KS w0 b H0 w1 H:=by
  cases hac:oB H.ac with
  | none=>
   rw[hac] at hg;exact⟨hg.os.trans s.os,hg.tape.trans s.tape,hg.output.trans s.output,aY s.size hg.size,fun x hx hn=>(hg.block x (qi hx s.size) (by simp)).trans (s.keep x hx hn),s.sn⟩
  | some g=>rw[hac] at hg;exact s.put hg (.inr (.inr (.inl hac))) fun x hx => .inl hx
 refine⟨hK,fun w2 hb d=>⟨⟨hb,h.ge,?_,h.tz⟩,s1.put d (.inl rfl) fun x hx => ?_⟩⟩
 ·exact⟨ak hm.fr hK (by decide) d,ak hm.sl hK (by decide) d,hm.sw.keep hK (by decide) (by decide) d,hm.dk.keep hK (by decide) (by decide) d,hm.st.keep hK (by decide) (by decide) d,ak hm.ca hK (by decide) d,ak hm.sp hK (by decide) d,fun q hq=>⟨ak (hm.ps q hq).1 hK (by decide) d,(hm.ps q hq).2.keep hK (by decide) d⟩,hm.c64⟩
 rcases hx with hx|hx|hx|hx
 ·exact .inl (.inl hx)
 ·exact .inl (.inr (.inl hx))
 ·rcases hsn with e|e
  ·exact .inl (.inr (.inr (.inl (by rw[←e];exact hx))))
  ·exact .inr (e x hx)
 ·exact .inl (.inr (.inr (.inr hx)))
theorem PP {k:Kp} (h:iI k.m f=false):gU k f=k:=by
 unfold iI at h;simp only[zJ,decide_eq_false_iff_not] at h;unfold gU;simp only;rw[if_pos (.inr (.inr h.2))]
theorem Ov (u:Nat × Int):(uC u).all (·.oneCell')=true:=by simp[uC,Value.oneCell']
theorem slca_size:(Tryz.prog.info? 38).map (·.size)=some 1:=by kernel_rfl
theorem VF {l:List (Nat × Int)} (h:dI w a (l.flatMap uL)) (k:Nat) (hk:k<l.length):∃b off,a=some ⟨b,off,none⟩∧dI w (some ⟨b,off+k*2,none⟩) [.int .i64 l[k].1,.int .i64 l[k].2]:=jH VZ (by decide) h k hk
theorem Ml (H:MH) (e:Int) (f:Nat) (B b:Nat) (w:World) (h:kY w B b H e) (hf:f<H.m.fs.length) (hz:H.sp.length≤1000) (hz2:H.ca.length≤1000) :
  Calls Tryz.prog 90 #[.pointer (some ⟨b,0,none⟩),.int .i64 f] w fun r w'=>r = .returned (.bool (lW H.ma f))∧KR w B b H w' (fF ⟨H.ma,e⟩ f):=by
 obtain⟨g,off,cur,gc,gv,k2,kX,kK,gu,gt,kI⟩:=h.frame hf;generalize hx:aR H.ma f=x at *
 have hR:=Lib.hid hx;clear hx kI gu;have hc:=h.blk.cell;unfold uD at hc;rw[gc] at hc;have gK:(f:Int)<(H.m.fs.length:Int):=by omega
 go_enter func90,ntmps90
 go_wp2_with (first | (refine ax _ _ rfl g (off+f*13) rfl rfl _ kK _ underlying81 rfl frame_size ?_) | (refine aF rfl _ _ _ rfl (vv x) rfl rfl rfl frame_size (nY x) ?_))
 intro w1 ky kn;have h1:=h.below ky;have s1:=(KS.refl w b H).below ky;have hp:¬kb b H w.heap.size:=fun hk=>by obtain⟨cs,T,hb,_⟩:=h.kb_T hk;have:=hb.lt;omega
 have ge:=Lib.hid h.bs;clear hc kK k2 kX ky gv gt gc h
 go_wp2_with fail
 refine (NC H e f B b _ h1 hz).mono ?_;rintro r w2 ⟨v2,rfl,hL,hX⟩;obtain⟨a2,c2,rfl,_⟩:=hL.rd;have h2:=h1.below hX;have s2:=s1.below hX;have hs:=kn.ext hX;have gH:=kn.lt;clear h1 s1 kn hX;have hB:=hs.cell;unfold vv at hB
 by_cases hxf:0≤x.f
 ·go_wp2_with fail
  refine (zi H e f B b _ h2 hf).mono ?_;rintro r w3 ⟨rfl,H3,e3,h3,s3,q3⟩;have hy:=s3.own h2 (hL.mono (aW _)) (by decide);have hN:¬kb b H w.heap.size:=hp;have km:=s3.blkN hs hN;have ki:¬kb b H3 w.heap.size:=fun hk=>(s3.sn _ hk).elim hN (fun hh=>by have:=hs.lt;omega);have s03:=s2.trans s3;have kS:H3.sp.length=H.sp.length∧H3.ca=H.ca∧H3.m.fs.length=H.m.fs.length:=by have hq:=jQ.clean ⟨H.ma,e⟩ f;rw[←q3] at hq;exact⟨by have:=hq.sp;simp only[Dq] at this;exact this,hq.ca,hq.fs⟩
  have gi:=hs.lt;clear hB hs hL h2 s2 s3 hp hN;cases hcb:iI H.ma f with
  | false=>
   have hq:Hid (fF ⟨H.ma,e⟩ f=⟨H.ma,e⟩∧lW H.ma f=false):=Lib.hid (by unfold fF lW;simp only[hR.out];rw[if_pos hxf,if_pos hcb,if_pos hxf];exact⟨rfl,hcb⟩);rw[PP (k:=⟨H.ma,e⟩) hcb] at q3;have gl:=Lib.hid q3;clear q3 km;go_wp2;go_ret;rw[hq.out.1,hq.out.2];exact⟨rfl,_,_,h3,s03,gl.out⟩
  | true=>
   have hu:Hid (bq H.ma f=bq H.ma f):=Lib.hid rfl;have gn:(bq H.ma f).length≤64000:=by
    have:=Dk H.ma f H.sp.length;have e1:sM H.ma f H.sp.length=bq H.ma f:=by unfold sM bq;rw[Dq]
    rw[e1] at this;omega
   obtain⟨k3,kv⟩:∃k,k=gU ⟨H.ma,e⟩ f:=⟨_,rfl⟩;rw[←kv] at q3;have hI:∀u∈bq H.ma f,u.1<H.sp.length:=fun u hu=>by have:=(vk.1 hu).1;rw[Dq] at this;exact this
   have hq:Hid (lW H.ma f=true∧fF ⟨H.ma,e⟩ f=if Rc (kL k3 (bq H.ma f)).m.ca x.f x.i=true then iM ⟨{ (kL k3 (bq H.ma f)).m with ca:=(kL k3 (bq H.ma f)).m.ca.eraseIdx (zy (kL k3 (bq H.ma f)).m.ca x.f x.i) },(kL k3 (bq H.ma f)).e⟩ f (-1) else kL k3 (bq H.ma f)):=Lib.hid (by unfold fF lW;simp only[hR.out];rw[if_pos hxf,if_pos hxf,if_neg (by rw[hcb];decide),kv];exact⟨hcb,rfl⟩);generalize bq H.ma f=l at *
   have q3':=Lib.hid q3;have hH:=Lib.hid hI;clear q3 hcb kv hu hI;go_upto_region 7 with (fail)
   go_loopw [38] (fun s38 wr => ∃(j:Nat) (Hj:MH) (ej:Int),j≤l.length∧s38 = .int .i64 j∧kY wr B b Hj ej∧KS w b H wr Hj∧Hid (Kp.mk Hj.ma ej=kL k3 (l.take j))∧Own wr 0 193 2 (.slice a2 l.length c2) l.length (l.flatMap uL)∧aA wr w.heap.size (vv x) 81∧¬kb b Hj w.heap.size∧Hj.sp.length=H.sp.length∧Hj.ca=H.ca) (fun s38 _=>l.length-(intOf s38).toNat)
   case atStart=>exact⟨0,H3,e3,aW _,rfl,h3,s03,Lib.hid (by rw[q3'.out];rfl),hy,km,ki,kS.1,kS.2.1⟩
   case round=>
    clear hy km ki h3 s03;obtain⟨j,Hj,ej,hj,rfl,ha,sj3,qj,z,hQ,kh,hM,kx⟩:=hrel
    by_cases hjl:j<l.length
    ·have kw:(j:Int)<(l.length:Int):=by omega
     obtain⟨_,_,e9,_,_,_,hG⟩:=z.rd;cases e9;obtain⟨bl,ol,rfl,hF⟩:=VF hG j hjl;have ko:l[j].1<H.sp.length:=hH.out _ (dM hjl)
     go_wp2_with (first | (refine ax _ _ rfl bl (ol+j*2) rfl rfl _ hF _ underlying193 rfl us_size ?_) | (refine aF rfl _ _ _ rfl (uC l[j]) rfl rfl rfl us_size (Ov _) ?_))
     intro w5 hl kH;have h5:=ha.below hl;have s5:=sj3.below hl;have hJ:=z.below hl;have hD:=hQ.ext hl;have gE:=hD.lt;clear ha sj3 z hQ hG hF hl;have k1:=kH.cell;unfold uC at k1
     go_wp2_with fail
     refine (QR Hj ej l[j].2 l[j].1 B b _ h5 (by rw[hM];exact ko)).mono ?_;rintro r w6 ⟨rfl,H6,e6,h6,s6,q6⟩;have s:=s6.own h5 hJ (by decide);have gh:=s6.blkN hD kh;have kU:¬kb b H6 w.heap.size:=fun hk=>(s6.sn _ hk).elim kh (fun hh=>by omega);have s06:=s5.trans s6;have hU:H6.sp.length=H.sp.length∧H6.ca=H.ca:=by have hq:=jQ.drop ⟨Hj.ma,ej⟩ l[j].1 l[j].2;rw[←q6] at hq;exact⟨by have:=hq.sp;simp only[Dq] at this;rw[this,hM],by have:=hq.ca;exact Eq.trans this kx⟩
     have ks:Hid (Kp.mk H6.ma e6=kL k3 (l.take (j+1))):=Lib.hid (by rw[NI k3 l j hjl,←qj.out];exact q6);clear q6 h5 s5 hJ hD k1 kH s6;go_wp2;go_roundw
     case rel=>exact⟨j+1,H6,e6,by omega,by go_num,h6,s06,ks,s,gh,kU,hU.1,hU.2⟩
     case measure=>simp[intOf];omega
    have kw:¬(j:Int)<(l.length:Int):=by omega
    rw[iJ (by omega)] at qj;clear z;generalize hkd:kL k3 l=kd at *
    clear hkd;have hB:=hQ.cell;unfold vv at hB;have kM:=Lib.hid (show kd.m.ca=Hj.ca by rw[←qj.out];rfl);have gs:Hj.ca.length≤1000:=by rw[kx];exact hz2
    clear kx hM
    go_wp2_with fail
    refine (Vk Hj ej x.f x.i B b _ ha).mono ?_;rintro r w5 ⟨rfl,hl⟩;have h5:=ha.below hl;have s5:=sj3.below hl;clear ha sj3 hl hB hQ;cases hi:Rc Hj.ca x.f x.i with
    | false=>
     have kt:Hid (fF ⟨H.ma,e⟩ f=kd):=Lib.hid (by rw[hq.out.2,kM.out,hi];rfl);generalize zy Hj.ca x.f x.i=k at *
     go_wp2;go_ret;rw[hq.out.1,kt.out];exact⟨rfl,_,_,h5,s5,qj.out⟩
    | true=>
     have kt:Hid (fF ⟨H.ma,e⟩ f=iM ⟨{ kd.m with ca:=Hj.ca.eraseIdx (zy Hj.ca x.f x.i) },kd.e⟩ f (-1)):=Lib.hid (by rw[hq.out.2,kM.out,hi,if_pos rfl]);obtain⟨c,hc,_,_⟩:=RJ hi;have kT:=(dn.1 hc).1;clear hc hi;generalize zy Hj.ca x.f x.i=k at *
     have kZ:=h5.blk.cell;unfold uD at kZ;have gI:(k:Int)+1≤1000:=by omega
     have hS:IntKind.i64.wrap ((k:Int)+1)=(k:Int)+1:=bO _ (by omega)
     go_wp2_with fail
     refine (Li Hj.ca k kT Hj.ac Hj.cc B _ h5.ma.ca gs).mono ?_;rintro r w6 ⟨rfl,s,hg⟩;have kg:(Hj.ca.eraseIdx k).length=Hj.ca.length-1:=AJ kT;rw[←kg] at s;obtain⟨hK,kp⟩:=h5.cache s5 hg (a:=Hj.ac) (c:=Hj.cc) (l:=Hj.ca.eraseIdx k) s (.inl rfl);rw[kg] at kp;clear kZ h5 s5 s hg
     go_wp2_with (refine aD rfl _ _ _ rfl b 9 _ [.slice Hj.ac (Hj.ca.length-1) Hj.cc] rfl rfl rfl _ _ hK (by show 9+1≤12;decide) slca_size (fun u hu=>by cases bv.1 hu;rfl) ?_)
     intro w7 hP hr;obtain⟨h7,s7⟩:=kp w7 hP hr;clear kp hK hP hr
     go_wp2_with fail
     refine (Bo _ ej f (-1) B b _ h7).mono ?_;rintro r w8 ⟨rfl,gq⟩;go_wp2;go_ret;rw[hq.out.1,kt.out,←qj.out];exact⟨rfl,KR.trans s7 gq⟩
 have kj:=h2.blk.cell;unfold uD at kj;have hm:=h2.ma.rd.sl;have gn:(bq H.ma f).length≤64000:=by
  have:=Dk H.ma f H.sp.length;have e1:sM H.ma f H.sp.length=bq H.ma f:=by unfold sM bq;rw[Dq]
  rw[e1] at this;omega
 have hI:∀u∈bq H.ma f,u.1<H.sp.length:=fun u hu=>by have:=(vk.1 hu).1;rw[Dq] at this;exact this
 have kr:Hid (lW H.ma f=decide (iy H.sl (bq H.ma f).length=0)):=Lib.hid (by unfold lW;rw[hR.out,if_neg hxf];rfl);have kq:Hid (fF ⟨H.ma,e⟩ f=if iy H.sl (bq H.ma f).length≠0 then ⟨H.ma,e⟩ else sF ⟨{ H.ma with sl:=lL H.sl (bq H.ma f).length,sw:=dE H.sw (jM H.sl (bq H.ma f).length) x.p },jo e (aN H.sw (jM H.sl (bq H.ma f).length))⟩ f (jM H.sl (bq H.ma f).length) (bq H.ma f)):=Lib.hid (by unfold fF;simp only[hR.out];rw[if_neg hxf];rfl);generalize bq H.ma f=l at *
 have hH:=Lib.hid hI;clear hI
 go_wp2_with fail
 refine (Mr H.sl H.asl H.csl (l.length:Int) _ hm.le hm.nl hm.rd (by have:=hm.le;have:=hm.mx;unfold maxLen at this;omega)).mono ?_;rintro r w3 ⟨v3,rfl,hy,hv⟩;obtain⟨a3,c3,rfl,_⟩:=hy.rd;have k3:=h2.below hv;have s3:=s2.below hv;have kx3:=hs.ext hv;have kf:=hL.below hv;have gj:=Lib.hid s2.size;clear hB kj h2 s2 hs hL hv hm
 by_cases hE:iy H.sl l.length=0
 ·have hq:Hid (lW H.ma f=true∧fF ⟨H.ma,e⟩ f=sF ⟨{ H.ma with sl:=lL H.sl l.length,sw:=dE H.sw (jM H.sl l.length) x.p },jo e (aN H.sw (jM H.sl l.length))⟩ f (jM H.sl l.length) l):=Lib.hid (by rw[kr.out,kq.out,hE];exact⟨rfl,rfl⟩);rw[hE];clear hE kr kq;generalize jM H.sl l.length=N at *
  go_upto_region 19 with (fail);refine nA 15 [_,_,_,_,_,_,_,_,.r 8 ((Cu w3.heap.size (dE H.sw N x.p) (aN H.sw N))),.r 9 ((Cu w3.heap.size (dE H.sw N x.p) (aN H.sw N))),.r 10 ((yC w3.heap.size (dE H.sw N x.p))),.v (.int .i64 (aN H.sw N)),.r 12 ((kD w3.heap.size 34 2)),.y 13 ((SE 12 w3.heap.size 34 (yC w3.heap.size (dE H.sw N x.p)))),.v (.int .i64 (aN H.sw N))] (fun W=>Below w3.heap.size w3 W) gP (Below.refl _ _) (Yk gP rfl (Yk gP rfl (Yf gP b 0 rfl rfl (Yf gP b 3 rfl rfl (Yr gP (.agg #[.slice H.wb H.sw.blocks.length H.cwb,.slice H.wq H.sw.queue.length H.cwq]) (fun ρ y W hb kz=>(bF rfl (aC rfl kz) (k3.below hb).rdW underlying34 rfl disk_size)) rfl rfl (Yk gP rfl (Yf gP w.heap.size 0 rfl rfl (Yr gP (.agg (fQ x.p)) (fun ρ y W hb kz=>(bF rfl (aC rfl kz) (bL (kx3.ext hb) 0 8) underlying79 rfl psize)) rfl rfl (ag ?_ (ag ?_ (ag ?_ (ag ?_ (ag ?_ (ag ?_ (Yk gP rfl (aB)))))))))))))))) (fun _=>rfl) rfl ?_
  ·intro ρ y W hw hn hb hd;refine mh gP hb ((Cu w3.heap.size (dE H.sw N x.p) (aN H.sw N))) (fun _ _ h=>h) ?_;have gC:=hw 94 4 rfl;have h4:y 4 = .agg #[.slice H.wb H.sw.blocks.length H.cwb,.slice H.wq H.sw.queue.length H.cwq]:=hd 4 rfl;have gB:=hw 95 5 rfl;have h5:y 5 = .int .i64 N:=hd 5 rfl;have gA:=hw 97 7 rfl;have h7:y 7 = .agg (fQ x.p):=hd 7 rfl;have EF:∀f,ρ (.func f) = .func (.func f) #[] #[]:=fun f=>hn (.func f) trivial;refine aL _ _ (ah rfl) (aO rfl (EF _) func92 (by kernel_rfl) (by kernel_rfl) (by simp only[bH,bA,bB,gC,h4,gB,h5,gA,h7,EF];rfl)) ?_;refine (DR H.sw N x.p H.wb H.cwb H.wq H.cwq W (k3.below hb).ma.rd.sw).mono ?_;rintro r W3 ⟨vb,vq,rfl,ho,hv⟩;exact⟨_,rfl,hv,vb,vq,rfl,ho.mono hb.size⟩
  ·intro ρ y W hw hn hb hd;refine mh gP hb ((Cu w3.heap.size (dE H.sw N x.p) (aN H.sw N))) (fun _ _ h=>h) ?_;have gz:=hw 98 8 rfl;have h8:=hd 8 rfl;refine aj _ (ah rfl) (run_move (.inl rfl) gz) ?_;exact h8
  ·intro ρ y W hw hn hb hd;refine mh gP hb ((yC w3.heap.size (dE H.sw N x.p))) (fun _ _ h=>h) ?_;have kA:=hw 89 9 rfl;have h9:=hd 9 rfl;obtain⟨vb,vq,hu,ho⟩:=h9;refine aj (.agg #[vb,vq]) (ah rfl) (by simp[execOp,go_sem,dm,kA,hu]) ?_;exact⟨vb,vq,rfl,ho⟩
  ·intro ρ y W hw hn hb hd;refine mh gP hb (ve (.int .i64 (aN H.sw N))) (fun _ _ h=>h) ?_;have kA:=hw 89 9 rfl;have h9:=hd 9 rfl;obtain⟨vb,vq,hu,ho⟩:=h9;refine aj (.int .i64 (aN H.sw N)) (ah rfl) (by simp[execOp,go_sem,dm,kA,hu]) rfl
  ·intro ρ y W hw hn hb hd;refine mh gP hb ((kD w3.heap.size 34 2)) (fun _ _ h=>h) ?_;refine jT (.pointer (some ⟨W.heap.size,0,none⟩)) (ah rfl) (by simp[execOp,go_sem,dm]) ((Below.refl _ _).alloc (az _) (.cells #[.slice none 0 0,.slice none 0 0] 34)) ?_;exact⟨_,_,rfl,hb.size,aA.new _ _ _,rfl⟩
  ·intro ρ y W hw hn hb hd;have gD:=hw 14 12 rfl;have gw:=hd 12 rfl;have gy:=hw 99 10 rfl;have gx:=hd 10 rfl;obtain⟨vb,vq,e7,ku⟩:=gx;obtain⟨g3,cur3,e9,kW,hC,kJ⟩:=gw;obtain⟨ab,cb,rfl,_⟩:=ku.b.rd;obtain⟨aq,cq,rfl,_⟩:=ku.q.rd;refine sD (ah rfl) _ _ _ rfl g3 0 (.agg #[.slice ab _ cb,.slice aq _ cq]) [.slice ab _ cb,.slice aq _ cq] (gD.trans e9) (gy.trans e7) rfl cur3 _ hC (by rw[kJ];exact az _) disk_size (bV (kP _ _ _ _ _ _)) ?_;intro w1 hS hA;rw[show ∀(p q:Value),[p,q]=(#[p,q]:Array Value).toList from fun _ _=>rfl,iF cur3 _ (by rw[kJ];rfl)] at hS;refine⟨hb.grown hA hb.size (fun k hk=>by cases hk;exact kW),⟨g3,_,e9,kW,hS,⟨_,_,rfl,ku.keep hC (by decide) (by decide) hA⟩⟩,?_⟩;intro k hk gm
   match k,hk,gm with
   | 0,_,_=>exact fun h=>h
   | 1,_,_=>exact fun h=>h
   | 2,_,_=>exact fun h=>h
   | 3,_,_=>exact fun h=>h
   | 4,_,_=>exact fun h=>h
   | 5,_,_=>exact fun h=>h
   | 6,_,_=>exact fun h=>h
   | 7,_,_=>exact fun h=>h
   | 8,_,_=>exact fun⟨c,q0,q1,q2⟩=>⟨c,q0,q1,q2.keep hC (by decide) (by decide) hA⟩
   | 9,_,_=>exact fun⟨c,q0,q1,q2⟩=>⟨c,q0,q1,q2.keep hC (by decide) (by decide) hA⟩
   | 10,_,_=>exact fun⟨c,q0,q1,q2⟩=>⟨c,q0,q1,q2.keep hC (by decide) (by decide) hA⟩
   | 11,_,_=>exact fun h=>h
   | 12,_,_=>exact fun q=>pW q hS (fun _=>rfl) ⟨_,hC⟩ hA
   | 13,_,h=>exact absurd rfl h
   | 14,_,_=>exact fun h=>h
   | n+15,h,_=>exact absurd h (by omega)
  intro y W4 d t;replace d:Below w3.heap.size w3 W4:=d;have gg:((Cu w3.heap.size (dE H.sw N x.p) (aN H.sw N))).r (y 8) W4:=t 8 (by decide);have gf:((Cu w3.heap.size (dE H.sw N x.p) (aN H.sw N))).r (y 9) W4:=t 9 (by decide);have kE:((yC w3.heap.size (dE H.sw N x.p))).r (y 10) W4:=t 10 (by decide);have kC:((kD w3.heap.size 34 2)).r (y 12) W4:=t 12 (by decide);have kB:=t 13 (by decide);clear t;simp only[cz,dm,bA,bB];obtain⟨gd,cd,gG,gJ,ga,vb,vq,hV,hT⟩:=kB;simp only[Dj] at hV;subst hV;obtain⟨ab,cb,rfl,_⟩:=hT.b.rd;obtain⟨aq,cq,rfl,_⟩:=hT.q.rd;have k4:=k3.below d;have s4:=s3.below d;have kx4:=kx3.ext d;have ke:=kf.below d;have hZ:=hy.below d;have gk:=Lib.hid s3.size;have gF:=kx4.lt;clear gg gf kE kC k3 s3 kx3 kf hy d
  go_wp2_with fail
  refine (vo _ e (aN H.sw N) _ _ _ k4).mono ?_;rintro r w5 ⟨rfl,k5,ht⟩;have s5:=s4.putB ht rfl rfl rfl;have kx5:aA w5 w.heap.size (vv x) 81:=kx4.grown ht (fun e=>hp (.inl (aJ e).symm));have kc:=ak ke k4.blk (by decide) ht;have hY:=ak hZ k4.blk (by decide) ht;have hJ:=hT.keep k4.blk (by decide) (by decide) ht;have hO:=bu ga k4.blk (by decide) ht;clear k4 s4 kx4 ke hZ hT ga ht;have hcb:=k5.blk.cell;have gr:=k5.blk.free;unfold uD at hcb;have hV:=hO.cell;have n2:=mo k5.blk hO (by decide);go_upto_region 21 with (fail)
  go_region
  refine TG (w:=w5.setCells b 2 [.slice a3 (lL H.sl l.length).length c3]) (b:=b) (o:=3) (vs:=[.slice ab (dE H.sw N x.p).blocks.length cb,.slice aq (dE H.sw N x.p).queue.length cq]) (fun W=>Exit.then _ _ _ _ W) fun w7 hr hP => ?_;have hg:=aH w5 b 2 [.slice a3 (lL H.sl l.length).length c3];have gb:=k5.blk.setCells [.slice a3 (lL H.sl l.length).length c3] 2;have k6:=k5.setL (hY.mono (aY ge.out gj.out)) gb hg;have s6:=s5.putB (H':={ H with asl:=a3,csl:=c3,sl:=lL H.sl l.length }) hg rfl rfl rfl;have s:=hJ.keep k5.blk (by decide) (by decide) hg;have ka:=ak kc k5.blk (by decide) hg;have kx6:=kx5.grown hg (fun e=>hp (.inl (aJ e).symm));have kl:=hP k6.blk;have k7:=k6.setW (s.mono (aY ge.out gk.out)) kl hr;have s7:=s6.putB (H':={ H with asl:=a3,csl:=c3,sl:=lL H.sl l.length,wb:=ab,cwb:=cb,wq:=aq,cwq:=cq,sw:=dE H.sw N x.p }) hr rfl rfl rfl;have h0:=(ak ka k6.blk (by decide) hr).mono (aW _);have kx7:=kx6.grown hr (fun e=>hp (.inl (aJ e).symm));clear hP kl hr k6 s6 s ka kx6 gb hg k5 s5 kx5 kc hY hJ hO hcb gr hV;generalize hH7:({ H with asl:=a3,csl:=c3,sl:=lL H.sl l.length,wb:=ab,cwb:=cb,wq:=aq,cwq:=cq,sw:=dE H.sw N x.p }:MH)=H7 at k7 s7;have kQ:Hid (Kp.mk H7.ma (jo e (aN H.sw N))=⟨{ H.ma with sl:=lL H.sl l.length,sw:=dE H.sw N x.p },jo e (aN H.sw N)⟩):=Lib.hid (by rw[←hH7];rfl);have gp:H7.sp.length=H.sp.length:=by rw[←hH7]
  rw[←kQ.out] at hq;clear hH7 kQ;generalize jo e (aN H.sw N)=e7 at *
  generalize hk7:Kp.mk H7.ma e7=kk at *
  have kV:=Lib.hid hk7;clear hk7;go_upto_region 23 with (fail)
  go_loopw [116] (fun s116 wr => ∃(j:Nat) (Hj:MH) (ej:Int),j≤l.length∧s116 = .int .i64 j∧kY wr B b Hj ej∧KS w b H wr Hj∧Hid (Kp.mk Hj.ma ej=sF kk f N (l.take j))∧Own wr 0 193 2 (.slice a2 l.length c2) l.length (l.flatMap uL)∧Hj.sp.length=H.sp.length) (fun s116 _=>l.length-(intOf s116).toNat)
  case atStart=>exact⟨0,H7,e7,aW _,rfl,k7,s7,Lib.hid (by rw[kV.out];rfl),h0,gp⟩
  case round=>
   clear k7 s7 h0 kx7;obtain⟨j,Hj,ej,hj,rfl,ha,sj3,qj,z,hM⟩:=hrel
   by_cases hjl:j<l.length
   ·have kw:(j:Int)<(l.length:Int):=by omega
    obtain⟨_,_,e9,_,_,_,hG⟩:=z.rd;cases e9;obtain⟨bl,ol,rfl,hF⟩:=VF hG j hjl;have ko:l[j].1<H.sp.length:=hH.out _ (dM hjl)
    go_wp2_with (first | (refine ax _ _ rfl bl (ol+j*2) rfl rfl _ hF _ underlying193 rfl us_size ?_) | (refine aF rfl _ _ _ rfl (uC l[j]) rfl rfl rfl us_size (Ov _) ?_))
    intro w8 hW kG;have k8:=ha.below hW;have s8:=sj3.below hW;have kO:=z.below hW;clear ha sj3 z hG hF hW
    go_wp2_with fail
    refine (Bo Hj ej f (-1) B b _ k8).mono ?_;rintro r w9 ⟨rfl,H9,e9,k9,s9,q9⟩;have kN:=s9.own k8 kO (by decide);have kF:=s9.blk k8 kG (by decide);have s09:=s8.trans s9;have kR:H9.sp.length=H.sp.length:=by have hq:=jQ.hold ⟨Hj.ma,ej⟩ f (-1);rw[←q9] at hq;have:=hq.sp;simp only[Dq] at this;rw[this,hM]
    have q9':=Lib.hid q9;clear k8 s8 kO kG s9 q9;have k0:=kF.cell;unfold uC at k0
    go_wp2_with fail
    refine (vO H9 e9 l[j].2 l[j].1 ⟨2,N,false⟩ B b _ k9 (by rw[kR];exact ko)).mono ?_;rintro r w6 ⟨rfl,H6,e6,h6,s6,q6⟩;have s:=s6.own k9 kN (by decide);have s06:=s09.trans s6;have ks:Hid (Kp.mk H6.ma e6=sF kk f N (l.take (j+1))):=Lib.hid (by rw[LJ kk f N l j hjl,←qj.out];unfold GY;rw[←q9'.out];exact q6);have hU:H6.sp.length=H.sp.length:=by have hq:=jQ.enter ⟨H9.ma,e9⟩ l[j].1 l[j].2 ⟨2,N,false⟩;rw[←q6] at hq;have:=hq.sp;simp only[Dq] at this;rw[this,kR]
    clear q6 k9 s09 kN k0 kF s6;go_wp2;go_roundw
    case rel=>exact⟨j+1,H6,e6,by omega,by go_num,h6,s06,ks,s,hU⟩
    case measure=>simp[intOf];omega
   have kw:¬(j:Int)<(l.length:Int):=by omega
   rw[iJ (by omega)] at qj;clear z;go_wp2;go_ret;rw[hq.out.1,hq.out.2];exact⟨rfl,_,_,ha,sj3,qj.out⟩
 have hq:Hid (lW H.ma f=false∧fF ⟨H.ma,e⟩ f=⟨H.ma,e⟩):=Lib.hid (by rw[kr.out,kq.out,if_pos hE];exact⟨decide_eq_false hE,rfl⟩);go_wp2;go_ret;rw[hq.out.1,hq.out.2];exact⟨rfl,_,_,k3,s3,rfl⟩
structure Cx (k k' : Kp):Prop where
 sp:k'.m.sp.length=k.m.sp.length
 ca:k'.m.ca.length≤k.m.ca.length
 fs:k'.m.m.fs.length=k.m.m.fs.length
theorem Cx.refl (k:Kp):Cx k k:=⟨rfl,az _,rfl⟩
theorem Cx.trans {a b c:Kp} (h:Cx a b) (k:Cx b c):Cx a c:=⟨k.sp.trans h.sp,aY k.ca h.ca,k.fs.trans h.fs⟩
theorem jQ.l {a b:Kp} (h:jQ a b):Cx a b:=⟨h.sp,by rw[h.ca];exact az _,h.fs⟩
theorem Cx.evict (k:Kp) (f:Nat):Cx k (fF k f):=by
 unfold fF;simp only;split
 ·split
  ·exact .refl _
  have h1:=(jQ.clean k f).trans (jQ.drops (bq k.m f) (gU k f));split
  ·refine (Cx.trans ?_ (jQ.hold _ f (-1)).l);exact⟨h1.sp,by show (List.eraseIdx _ _).length≤_;rw[h1.ca];exact List.length_eraseIdx_le _ _,h1.fs⟩
  ·exact h1.l
 split
 ·exact .refl _
 refine Cx.trans ?_ (jQ.swaps _ _ _ _).l;exact⟨rfl,az _,rfl⟩
theorem OV {m:Mem} (h:bR m=0):(fU m).fs.length=m.fs.length:=by
 unfold fU;rw[if_neg (by rw[h];simp)];split
 ·rfl
 ·exact iW _ _
theorem Tg {m:Mem} (h:bR m=0) (hk:¬iQ m<0):(iQ m).toNat<m.fs.length∧iQ m=(((iQ m).toNat:Nat):Int):=by
 unfold iQ at hk ⊢;rw[if_neg (by rw[h];simp)] at hk ⊢;split at hk
 ·omega
 rename_i hne;rw[if_neg hne];have a:0<m.fs.length:=by
  rcases sS m.fs.length with h0|h0
  ·have:=EH m.fs;omega
  ·exact h0
 rw[bX];exact⟨pI a _,rfl⟩
theorem XO {k:Kp} {e:Int} (q:Kp.mk H.ma e=k):H.sp.length=k.m.sp.length∧H.ca=k.m.ca∧H.m=k.m.m:=by
 subst q;exact⟨(Dq H).symm,rfl,rfl⟩
theorem Je (H:MH) (e:Int) (B b:Nat) (w:World) (h:kY w B b H e) (hz:H.sp.length≤1000) (hz2:H.ca.length≤1000) (hz3:H.m.fs.length≤1000) :
  Calls Tryz.prog 56 #[.pointer (some ⟨b,0,none⟩)] w fun r w'=>r = .returned (.bool (eF ⟨H.ma,e⟩).2)∧KR w B b H w' (eF ⟨H.ma,e⟩).1:=by
 have hc:=h.blk.cell;unfold uD at hc;have hw:=Lib.hid h.bs;go_enter func56,ntmps56;have hp:IntKind.i64.wrap (2*(H.m.fs.length:Int))=2*(H.m.fs.length:Int):=bO _ (by omega);have hn:IntKind.i64.wrap (2*(H.m.fs.length:Int)+1)=2*(H.m.fs.length:Int)+1:=bO _ (by omega);go_upto_region 2 with (fail);have hN:Hid (eF ⟨H.ma,e⟩=reclaimN (2*H.m.fs.length+1) ⟨H.ma,e⟩):=Lib.hid rfl;have h':=Lib.hid h;generalize hNN:2*H.m.fs.length+1=N at hN;have hi:(2*(H.m.fs.length:Int)+1)=(N:Int):=by omega
 have hu:N≤2001:=by omega
 clear h hc hp hn;rw[hi];clear hi hNN
 go_loopw [15] (fun s15 wr => ∃(j:Nat) (Hj:MH) (ej:Int),j≤N∧s15 = .int .i64 j∧kY wr B b Hj ej∧KS w b H wr Hj∧Hid (reclaimN N ⟨H.ma,e⟩=reclaimN (N-j) ⟨Hj.ma,ej⟩)∧Hid (Hj.sp.length=H.sp.length∧Hj.ca.length≤H.ca.length∧Hj.m.fs.length=H.m.fs.length)) (fun s15 _=>N-(intOf s15).toNat)
 case atStart=>exact⟨0,H,e,aW _,rfl,h'.out,.refl _ _ _,Lib.hid rfl,Lib.hid ⟨rfl,az _,rfl⟩⟩
 case round=>
  clear h';obtain⟨j,Hj,ej,hj,rfl,d,sj3,qj,hl⟩:=hrel
  by_cases hjl:j<N
  ·have hs:(j:Int)<(N:Int):=by omega
   go_wp2_with (refine ax _ _ rfl b 0 rfl rfl _ d.rdM _ underlying28 rfl mem_size ?_)
   refine (OT Hj.m _ _ _ d.ma.rd.fr).mono ?_;rintro r w1 ⟨vb,rfl,ho,u⟩;obtain⟨a1,c1,rfl,_⟩:=Dv ho;have h1:=d.below u;have s1:=sj3.below u;have ht:=Lib.hid d.bs;have hm:=Lib.hid sj3.size;clear d sj3 u
   go_wp2_with (refine aF rfl _ _ _ rfl #[.slice a1 (fU Hj.m).fs.length c1,.int .i64 (fU Hj.m).hand] rfl rfl rfl mem_size (jm _ _ _ _) ?_)
   intro w2 l v;have h2:=h1.below l;have s2:=s1.below l;have x:=ho.below l;clear h1 s1 ho l
   go_wp2_with fail
   refine (vo _ ej (bR Hj.m) _ _ _ h2).mono ?_;rintro r w3 ⟨rfl,h3,k⟩;have s3:=s2.putB k rfl rfl rfl;have q:=ak x h2.blk (by decide) k;have p:=bu v h2.blk (by decide) k;clear h2 s2 x v k;have c:Hid (reclaimN N ⟨H.ma,e⟩=reclaimN (N-(j+1)+1) ⟨Hj.ma,ej⟩):=Lib.hid (by rw[qj.out,show N-(j+1)+1=N-j by omega]);clear qj
   by_cases h0:bR Hj.m=0
   ·rw[h0,rY] at h3
    by_cases hk:iQ Hj.m<0
    ·have hq:Hid (eF ⟨H.ma,e⟩=(⟨Hj.ma,ej⟩,false)):=Lib.hid (by rw[hN.out,c.out];unfold reclaimN;rw[if_pos (.inr hk)];show (Kp.mk Hj.ma (jo ej (bR Hj.m)),false)=_;rw[h0,rY]);rw[h0];go_wp2;go_ret;rw[hq.out];exact⟨rfl,_,_,h3,s3,rfl⟩
    obtain⟨y,f⟩:=Tg h0 hk;have hr:=Lib.hid (OV h0);have o:=Lib.hid f;generalize hF:(iQ Hj.m).toNat=F at y f o;have hv:¬(F:Int)<0:=by omega
    rw[f] at hk;rw[h0,f];clear f hk;have hx:=p.cell
    go_wp2_with (first | (refine ax _ _ rfl _ 0 rfl rfl [.slice a1 (fU Hj.m).fs.length c1,.int .i64 (fU Hj.m).hand] (bL p 0 2) _ underlying28 rfl mem_size ?_) | (refine gZ rfl _ _ _ rfl b 0 _ rfl rfl _ _ h3.blk (by show 0+2≤12;decide) mem_size (jm _ _ _ _) ?_))
    intro w4 hh t;have h4:=h3.setM (q.mono ht.out) hh t;have s4:KS w b H w4 { Hj with af:=a1,cf:=c1,m:=fU Hj.m }:=s3.putF t (q.mono hm.out) (az _) rfl rfl;clear h3 s3 q p hx hh t;have g:Hid (reclaimN N ⟨H.ma,e⟩=if lW (MH.ma { Hj with af:=a1,cf:=c1,m:=fU Hj.m }) F=true then (fF ⟨MH.ma { Hj with af:=a1,cf:=c1,m:=fU Hj.m },ej⟩ F,true) else reclaimN (N-(j+1)) (fF ⟨MH.ma { Hj with af:=a1,cf:=c1,m:=fU Hj.m },ej⟩ F)):=Lib.hid (by
     rw[c.out]
     conv=>lhs;unfold reclaimN
     have hc:¬(bR (Kp.m ⟨Hj.ma,ej⟩).m≠0∨iQ (Kp.m ⟨Hj.ma,ej⟩).m<0):=by
      rintro (e|e)
      ·exact e h0
      have:iQ Hj.m<0:=e;rw[o.out] at this;omega
     rw[if_neg hc];rw[show (iQ (Kp.m ⟨Hj.ma,ej⟩).m).toNat=F from hF];rfl)
    obtain⟨hg,hf,s⟩:=hl.out;have hd:(MH.sp { Hj with af:=a1,cf:=c1,m:=fU Hj.m }).length=H.sp.length∧(MH.ca { Hj with af:=a1,cf:=c1,m:=fU Hj.m }).length≤H.ca.length∧(MH.m { Hj with af:=a1,cf:=c1,m:=fU Hj.m }).fs.length=H.m.fs.length:=⟨hg,hf,hr.out.trans s⟩;have n:=y;rw[s] at n;have a:=Lib.hid hd;clear hd hg hf s;generalize ({ Hj with af:=a1,cf:=c1,m:=fU Hj.m }:MH)=H4 at h4 s4 g a
    go_wp2_with fail
    refine (Ml H4 ej F B b _ h4 (by rw[a.out.2.2];exact n) (by rw[a.out.1];exact hz) (aY a.out.2.1 hz2)).mono ?_;rintro r w5 ⟨rfl,H5,e5,h5,s5,q5⟩;have s05:=s4.trans s5;have i:=Cx.evict ⟨H4.ma,ej⟩ F;obtain⟨m1,m2,m3⟩:=XO q5;have ha:H5.sp.length=H.sp.length∧H5.ca.length≤H.ca.length∧H5.m.fs.length=H.m.fs.length:=by have a1:=i.sp;have a2:=i.ca;have a3:=i.fs;rw[show (Kp.m ⟨H4.ma,ej⟩).sp.length=H4.sp.length from Dq H4] at a1;exact⟨by rw[m1,a1];exact a.out.1,by rw[m2];exact aY a2 a.out.2.1,by rw[m3];exact a3.trans a.out.2.2⟩
    have q5':=Lib.hid q5;have z:=Lib.hid ha;clear h4 s4 s5 q5 i m1 m2 m3 ha;cases hb:lW H4.ma F with
    | true=>
     have hq:Hid (eF ⟨H.ma,e⟩=(⟨H5.ma,e5⟩,true)):=Lib.hid (by rw[hN.out,g.out,hb,if_pos rfl,q5'.out]);go_wp2;go_ret;rw[hq.out];exact⟨rfl,_,_,h5,s05,rfl⟩
    | false=>
     have hq:Hid (reclaimN N ⟨H.ma,e⟩=reclaimN (N-(j+1)) ⟨H5.ma,e5⟩):=Lib.hid (by rw[g.out,hb,if_neg (by decide),q5'.out]);clear g c;go_wp2;go_roundw
     case rel=>exact⟨j+1,H5,e5,by omega,by go_num,h5,s05,hq,z⟩
     case measure=>simp[intOf];omega
   have hq:Hid (eF ⟨H.ma,e⟩=(⟨Hj.ma,jo ej (bR Hj.m)⟩,false)):=Lib.hid (by rw[hN.out,c.out];unfold reclaimN;rw[if_pos (.inl h0)];rfl);go_wp2;go_ret;rw[hq.out];exact⟨rfl,_,_,h3,s3,rfl⟩
  have hs:¬(j:Int)<(N:Int):=by omega
  have hq:Hid (eF ⟨H.ma,e⟩=(⟨Hj.ma,ej⟩,false)):=Lib.hid (by rw[hN.out,qj.out,show N-j=0 by omega];rfl);clear qj;go_wp2;go_ret;rw[hq.out];exact⟨rfl,_,_,d,sj3,rfl⟩
theorem Qa : (Tryz.prog.info? 86).map (·.size)=some 9:=by kernel_rfl
def FU (f:Int→Bool) (q:Int × Page):Bool:=!(f q.1)
theorem MP (q:Int × Page) (g gm n:Nat) (f:Int→Bool) (w:World) (hg:aA w g #[.map (some gm)] 203) (hM:oh w gm n f) (hq : -9223372036854775808≤q.1∧q.1≤9223372036854775807) :
  Calls Tryz.prog 135 #[.agg (FK q),.pointer (some ⟨g,0,none⟩)] w fun r w'=>r = .returned (.bool (FU f q))∧Below w.heap.size w w':=by
 go_enter func135,ntmps135;go_upto_region 1 with (fail);refine gF (fun W=>Code.wp _ _ _ _ W) fun W0 a b c => ?_;clear c;have e:=(hg.ext a).cell 0;have h:=b.cell;have d:=(hM.below a).look q.1 hq;have q0:(FK q)[0]?=some (.int .i64 q.1):=rfl;go_wp2;go_ret;exact⟨rfl,a⟩
theorem Sk {l:List (Int × Page)} (h:dI w a (l.flatMap zw)) (k:Nat) (hk:k<l.length):∃b off,a=some ⟨b,off,none⟩∧dI w (some ⟨b,off+k*9,none⟩) (zw l[k]):=jH wB (by decide) h k hk
theorem NB (l:List (Int × Page)) (a:Option Addr) (c:Nat) (w:World) (hrd:dI w a (l.flatMap zw)) (hl:l.length≤9223372036854775807) (g gm n:Nat) (f:Int→Bool) (hg:aA w g #[.map (some gm)] 203) (hM:oh w gm n f) (hq:∀q∈l,-9223372036854775808≤q.1∧q.1≤9223372036854775807) :
  Calls Tryz.prog 148 #[.slice a l.length c,.func (.func 135) #[] #[.pointer (some ⟨g,0,none⟩)]] w fun e w'=>e = .returned (.int .i64 (idx (FU f) l))∧Below w.heap.size w w':=by
 go_enter func148,ntmps148;go_wp2
 go_loopw [8] (fun i wr => ∃k:Nat,k≤l.length∧i = .int .i64 k∧Below w.heap.size w wr∧∀i (h:i<l.length),i<k→(FU f) l[i]=false) (fun i _=>l.length-(intOf i).toNat)
 case atStart=>exact⟨0,aW _,rfl,Below.refl _ _,fun i _ h=>absurd h (eG _)⟩
 case round=>
  obtain⟨k,hk,rfl,j,p⟩:=hrel;have hp:=Lib.hid p;clear p
  by_cases hlt:k<l.length
  ·obtain⟨b,off,rfl,s⟩:=Sk (hrd.below j) k hlt
   go_wp2_with (refine ax _ _ rfl b (off+k*9) rfl rfl _ s _ underlying86 rfl Qa ?_)
   refine (MP l[k] g gm n f _ (hg.ext j) (hM.below j) (hq _ (dM hlt))).mono ?_;rintro e w2 ⟨rfl,r⟩;have m:=ae j r;clear r;cases hpk:(FU f) l[k]
   ·have o:=Lib.hid hpk;clear hpk;go_wp2;go_roundw
    case rel=>exact⟨k+1,by omega,by go_num,m,lN hp.out hlt o.out⟩
    case measure=>simp[intOf];omega
   have d:=Lib.hid (uw (FU f) l k hlt hp.out hpk);clear hpk;go_wp2;go_ret;exact⟨aU d.out.symm,m⟩
  have d:=Lib.hid (lG (FU f) l fun i h=>hp.out i h (by omega));go_wp2;go_ret;exact⟨aU d.out.symm,j⟩
theorem Nq (l:List (Int × Page)) (a:Option Addr) (c:Nat) (w:World) (hrd:dI w a (l.flatMap zw)) (hl:l.length≤9223372036854775807) (g gm n:Nat) (f:Int→Bool) (hg:aA w g #[.map (some gm)] 203) (hM:oh w gm n f) (hq:∀q∈l,-9223372036854775808≤q.1∧q.1≤9223372036854775807) :
  Calls Tryz.prog 134 #[.slice a l.length c,.func (.func 135) #[] #[.pointer (some ⟨g,0,none⟩)]] w fun e w'=>e = .returned (.bool (l.any (FU f)))∧Below w.heap.size w w':=by
 go_enter func134,ntmps134
 go_wp2_with fail
 refine (NB l a c _ hrd hl g gm n f hg hM hq).mono ?_;rintro e w2 ⟨rfl,b⟩;go_wp2;go_ret;exact⟨bQ (nO _ _),b⟩
theorem Sj (hk:k<m.dk.blocks.length) (h:(decide ((k:Int)∈kF m.st)||decide (m.dk.blocks.getD k zPg=zPg))=false):trimB m=false:=by
 unfold trimB;rw[Iz];refine .inl (List.all_eq_false.2 ⟨k,dG.2 hk,?_⟩);rw[h];decide
theorem Sc (h:∀j:Nat,j<m.dk.blocks.length→(decide ((j:Int)∈kF m.st)||decide (m.dk.blocks.getD j zPg=zPg))=true):trimB m = !(m.dk.queue.any (FU (sN (kF m.st)))):=by
 unfold trimB;rw[dF.2 (fun j hj=>h j (dG.1 hj)),lh,List.any_eq_not_all_not,Bool.not_not];congr 1;funext q;simp[FU,sN]
theorem Lm (H:MH) (b:Nat) (w:World) (hb:aA w b (bS H) 41) (h:BH w H) (h0:aP (cZ H.fi H.ct)=0) (hd:bi H.dk=0) :
  Calls Tryz.prog 110 #[.pointer (some ⟨b,0,none⟩)] w fun r w'=>r = .returned (.bool (trimB H.ma))∧Below w.heap.size w w':=by
 have kb:=@run_makeMap Tryz.prog;have kq:H.fi.length≤5:=by simpa[cZ] using (jC h0).1
 have kd:Hid (∀p∈H.fi,p.l.length≤12∧∀x∈p.l,-1≤x∧x<80):=Lib.hid (fun p hp=>by obtain⟨h1,h2,h3,h4⟩:=qJ h0 p.fi (fP.2 ⟨p,hp,rfl⟩);have h5:=yl (n:=p.fi.n) h2;have h6:=(jC h0).2.2;refine⟨by have h7:(p.l.length:Int)=dW p.fi.n:=h3;omega,fun x hx=>⟨(h4 x hx).1,by have:=(h4 x hx).2;omega⟩⟩);obtain⟨kk,h9⟩:=yh hd;have h8:Hid (∀q∈H.dk.queue,-9223372036854775808≤q.1∧q.1≤9223372036854775807):=Lib.hid (fun q hq=>by obtain⟨i,hi,rfl⟩:=jK.1 hq;have:=xN hd i hi;omega);have H0:=Lib.hid h0;have HD:=Lib.hid hd;clear h0 hd;have ht:=Lib.hid (AB H.fi H.ct);go_enter func110,ntmps110;go_upto_region 2 with (fail);refine gF (fun W=>Code.wp _ _ _ _ W) fun w2 hF hC hw => ?_;have v:Below w.heap.size w w2:=ae ((Below.refl _ _).alloc (az _) _) hF;have hG:oh w2 w.heap.size 0 (sN (((H.fi.take 0).map PF.fi).flatMap Fi.b)):=(oh.made w).below hF;have hg : aA w2 (w.heap.size+1) #[.map (some w.heap.size)] 203:=by have e:(w.alloc (Obj.map #[] 0)).heap.size=w.heap.size+1:=Aa _;rw[e] at hC;exact hC
 obtain⟨gm,hH⟩:∃g,g=w.heap.size:=⟨_,rfl⟩;have hR:Hid (w.heap.size≤gm):=Lib.hid (by omega);rw[←hH] at hG hg ⊢;rw[←hH] at hR;have kp:w.heap.size≤gm:=by omega
 clear hF hC hw kb hH hR;have hB:=hb.ext v;have u:=hB.cell;unfold bS at u;have H5:(H.fi.length:Int)≤5:=by omega
 go_upto_region 3 with (fail);clear u hB
 go_loopw [17] (fun i wr => ∃(q n:Nat),q≤H.fi.length∧i = .int .i64 q∧n≤12*q∧Below w.heap.size w wr∧aA wr (gm+1) #[.map (some gm)] 203∧oh wr gm n (sN (((H.fi.take q).map PF.fi).flatMap Fi.b))) (fun i _=>H.fi.length-(intOf i).toNat)
 case atStart=>exact⟨0,0,aW _,rfl,az _,v,hg,hG⟩
 case round=>
  clear v hg hG;obtain⟨q,n,hq,rfl,hn,c,hx,hM⟩:=hrel
  by_cases hlt:q<H.fi.length
  ·obtain⟨bf,of,ki,t⟩:=jH jF (by decide) (h.below c).st.rd q hlt;obtain⟨p,hp⟩:∃p,H.fi[q]?=some p:=⟨_,aI hlt⟩;rw[show H.fi[q]=p from (dn.1 hp).2] at t;have hr:=(h.below c).st.good p (bN hp);obtain⟨kj,hN⟩:=kd.out p (bN hp);have hY:=Lib.hid (take_at hp);have hZ:(q:Int)<(H.fi.length:Int):=by omega
   generalize hseen:((H.fi.take q).map PF.fi).flatMap Fi.b=seen at hM;have hv:=Lib.hid hseen;have hL:=Lib.hid hN;clear hseen hp hN;rw[ki]
   go_wp2_with (first | (refine ax _ _ rfl bf (of+q*2) rfl rfl _ t _ underlying67 rfl file_size ?_) | (refine aF rfl _ _ _ rfl (pX p) rfl rfl rfl file_size (qK p) ?_))
   intro w3 f fx3;have o:=ae c f;have ha:=hx.ext f;have hf:=hM.below f;have hy:=hr.below f;have kn:=Lib.hid c.size;have kl:=Lib.hid hx.lt;clear c hx hM f t hr;have hT:=fx3.cell;unfold pX at hT;have hV:oh w3 gm n (sN (seen++p.l.take 0)):=by simpa using hf
   have ko:=hy.le;have ka:=hy.mx;have s:=hy.rd;unfold maxLen at ka;clear hf hy;go_upto_region 6 with (fail);clear hT fx3
   go_loopw [24] (fun i wr => ∃(j m:Nat),j≤p.l.length∧i = .int .i64 j∧m≤n+j∧Below w.heap.size w wr∧aA wr (gm+1) #[.map (some gm)] 203∧oh wr gm m (sN (seen++p.l.take j))∧dI wr p.a (p.l.map gB)) (fun i _=>p.l.length-(intOf i).toNat)
   case atStart=>exact⟨0,n,aW _,rfl,az _,o,ha,hV,s⟩
   case round=>
    clear o ha hV s;obtain⟨j,m,hj,rfl,hm,c,hx,hM,s⟩:=hrel
    by_cases hjl:j<p.l.length
    ·obtain⟨x,hX⟩:∃x,p.l[j]?=some x:=⟨p.l[j],aI hjl⟩;obtain⟨b2,off2,hD,hc⟩:=jD s j hjl;rw[show p.l[j]=x from (dn.1 hX).2] at hc;have hI:=Lib.hid (take_at hX);have km:=hL.out x (bN hX);have hA:=Lib.hid s;have hO:=Lib.hid hD;have hQ : (j:Int)<(p.l.length:Int):=by omega
     have hS:=hx.cell;rw[hD];clear hX s hD;generalize hw:seen++p.l.take j=seen2 at hM;have hJ : Hid (seen++p.l.take (j+1)=seen2++[x]):=Lib.hid (by rw[hI.out,←iw,hw]);clear hw
     go_wp2_with (refine xn hM (by omega) rfl _ _ _ rfl rfl x rfl rfl (by omega) ?_)
     intro w6 hU z;rw[DI,←hJ.out] at hU;have kg:=c.grown z c.size (fun k hk=>by cases hk;omega);have hW:=hx.grown z (fun e=>by have:=aJ e;omega);have hK:=hM.rdv hA.out z;clear c hx hM z hS hc hA;go_wp2;go_roundw
     case rel=>exact⟨j+1,m+1,by omega,by go_num,by omega,kg,hW,hU,by rw[←hO.out];exact hK⟩
     case measure=>simp[intOf];omega
    have hQ : ¬(j:Int)<(p.l.length:Int):=by omega
    rw[iJ (by omega)] at hM;have hz : oh wr gm m (sN (((H.fi.take (q+1)).map PF.fi).flatMap Fi.b)):=by rw[hY.out,gz,fu,hv.out];simpa[PF.fi] using hM
    clear hM s;go_wp2;go_roundw
    case rel=>exact⟨q+1,m,by omega,by go_num,by omega,c,hx,hz⟩
    case measure=>simp[intOf];omega
  have hZ:¬(q:Int)<(H.fi.length:Int):=by omega
  rw[iJ (by omega)] at hM;have hz : oh wr gm n (sN (kF H.ma.st)):=hM;clear hM;have ht:=hb.ext c;have u:=ht.cell;unfold bS at u;go_upto_region 12 with (fail);clear u ht
  go_loopw [38] (fun i wr => ∃(k:Nat),k≤H.dk.blocks.length∧i = .int .i64 k∧Below w.heap.size w wr∧aA wr (gm+1) #[.map (some gm)] 203∧oh wr gm n (sN (kF H.ma.st))∧Hid (∀j:Nat,j<k→(decide ((j:Int)∈kF H.ma.st)||decide (H.dk.blocks.getD j zPg=zPg))=true)) (fun i _=>H.dk.blocks.length-(intOf i).toNat)
  case atStart=>exact⟨0,aW _,rfl,c,hx,hz,Lib.hid fun j hj=>absurd hj (eG _)⟩
  case round=>
   clear c hx hz;obtain⟨k,hk,rfl,c,hx,hM,d⟩:=hrel
   by_cases hkl:k<H.dk.blocks.length
   ·obtain⟨bd,od,ke,t⟩:=jH kC (by decide) (h.below c).dk.rb k hkl;have kc:(k:Int)<(H.dk.blocks.length:Int):=by omega
    have hs:Hid (H.dk.blocks.getD k zPg=H.dk.blocks[k]):=Lib.hid (by rw[aV,aI hkl];rfl);generalize hP:H.dk.blocks[k]=P at t hs;clear hP;rw[ke]
    go_wp2_with (first | (refine ax _ _ rfl bd (od+k*8) rfl rfl _ t _ underlying79 rfl psize ?_) | (refine aF rfl _ _ _ rfl (fQ P) rfl rfl rfl psize (fT _) ?_))
    intro w3 f px3;have o:=ae c f;have ha:=hx.ext f;have hf:=hM.below f;clear c hx hM f t;have hS:=ha.cell;have hl:=hf.look k (by omega);have kf:=px3.cell;rw[NZ] at kf;cases hu:sN (kF H.ma.st) (k:Int) with
    | true=>
     rw[hu] at hl;have y:Hid (∀j:Nat,j<k+1→(decide ((j:Int)∈kF H.ma.st)||decide (H.dk.blocks.getD j zPg=zPg))=true):=Lib.hid fun j hj=>by
      by_cases e:j=k
      ·subst e;rw[show decide ((j:Int)∈kF H.ma.st)=true from hu];rfl
      ·exact d.out j (by omega)
     clear hu d;go_wp2;go_roundw
     case rel=>exact⟨k+1,by omega,by go_num,o,ha,hf,y⟩
     case measure=>simp[intOf];omega
    | false=>
     rw[hu] at hl;have hE:∀W,(Op.equalIn 10000 79 (.agg #[.int .u8 P[0].toNat,.int .u8 P[1].toNat,.int .u8 P[2].toNat,.int .u8 P[3].toNat,.int .u8 P[4].toNat,.int .u8 P[5].toNat,.int .u8 P[6].toNat,.int .u8 P[7].toNat]) (.agg #[.int .u8 0,.int .u8 0,.int .u8 0,.int .u8 0,.int .u8 0,.int .u8 0,.int .u8 0,.int .u8 0])).run Tryz.prog W = .ok (P==zPg) W:=fun W=>Xr P zPg W
     by_cases hp0:P=zPg
     ·have y:Hid (∀j:Nat,j<k+1→(decide ((j:Int)∈kF H.ma.st)||decide (H.dk.blocks.getD j zPg=zPg))=true):=Lib.hid fun j hj=>by
       by_cases e:j=k
       ·subst e;rw[hs.out,decide_eq_true hp0,Jo]
       ·exact d.out j (by omega)
      have hh:(P==zPg)=true:=by rw[hp0];exact beq_self_eq_true _
      rw[hh] at hE;clear hu d hh hp0 hs;go_wp2;go_roundw
      case rel=>exact⟨k+1,by omega,by go_num,o,ha,hf,y⟩
      case measure=>simp[intOf];omega
     have hh:(P==zPg)=false:=by rw[beq_eq_false_iff_ne];exact hp0
     have hq:Hid (trimB H.ma=false):=Lib.hid (Sj (k:=k) hkl (by show (decide ((k:Int)∈kF H.ma.st)||decide (H.dk.blocks.getD k zPg=zPg))=false;rw[hs.out,decide_eq_false hp0,show decide ((k:Int)∈kF H.ma.st)=false from hu];rfl));rw[hh] at hE;clear hu d hh hp0 hs;go_wp2;go_ret;rw[hq.out];exact⟨rfl,o⟩
   have kc:¬(k:Int)<(H.dk.blocks.length:Int):=by omega
   have hq:Hid (trimB H.ma = !(H.dk.queue.any (FU (sN (kF H.ma.st))))):=Lib.hid (Sc fun j hj=>d.out j (by have:j<H.dk.blocks.length:=hj;omega));have ht:=hb.ext c;have u:=ht.cell;unfold bS at u;have hd:=(h.below c).dk;clear d
   go_wp2_with fail
   refine (Nq H.dk.queue H.dq H.cdq _ hd.rq (by omega) (gm+1) gm n (sN (kF H.ma.st)) hx hM h8.out).mono ?_;rintro r w4 ⟨rfl,kh⟩;go_wp2;go_ret;rw[hq.out];exact⟨rfl,ae c kh⟩
def IJ (m:Ma):List Int:=[bR m.m,dx m.sl,bi m.sw,bi m.dk,aP m.st]
theorem PV (hk:k<5) (h:∀j,j<k→(IJ m).getD j 0=0) (hne:(IJ m).getD k 0≠0):iq m=(IJ m).getD k 0:=by
 unfold iq;have e0:0<k→bR m.m=0:=fun h'=>h 0 h';have e1:1<k→dx m.sl=0:=fun h'=>h 1 h';have e2:2<k→bi m.sw=0:=fun h'=>h 2 h';have e3:3<k→bi m.dk=0:=fun h'=>h 3 h'
 match k,hk with
 | 0,_=>rw[if_pos (show bR m.m≠0 from hne)];rfl
 | 1,_=>rw[if_neg (by rw[e0 (by omega)];simp),if_pos (show dx m.sl≠0 from hne)];rfl
 | 2,_=>rw[if_neg (by rw[e0 (by omega)];simp),if_neg (by rw[e1 (by omega)];simp),if_pos (show bi m.sw≠0 from hne)];rfl
 | 3,_=>rw[if_neg (by rw[e0 (by omega)];simp),if_neg (by rw[e1 (by omega)];simp),if_neg (by rw[e2 (by omega)];simp),if_pos (show bi m.dk≠0 from hne)];rfl
 | 4,_=>rw[if_neg (by rw[e0 (by omega)];simp),if_neg (by rw[e1 (by omega)];simp),if_neg (by rw[e2 (by omega)];simp),if_neg (by rw[e3 (by omega)];simp),if_pos (show aP m.st≠0 from hne)];rfl
 | n+5,h'=>omega
def WN (B:Nat) (H:MH):lT:=⟨fun v w => ∃g,v = .slice (some ⟨g,0,none⟩) 5 5∧aA w g #[.int .i64 (bR H.m),.int .i64 (dx H.sl),.int .i64 (bi H.sw),.int .i64 (bi H.dk),.int .i64 (aP (cZ H.fi H.ct))] 43,fun _ _ _ hb ⟨g,h1,h2⟩=>⟨g,h1,h2.ext hb⟩⟩
theorem Qg (H:MH) (b:Nat) (w:World) (hbk:aA w b (bS H) 41) (h:BH w H) :
  Calls Tryz.prog 66 #[.pointer (some ⟨b,0,none⟩)] w fun r w'=>r = .returned (.int .i64 (iq H.ma))∧Below w.heap.size w w':=by
 go_enter func66,ntmps66;go_upto_region 1 with (fail);refine aK 28 [_,_,_,_,.v (.int .i64 (bR H.m)),_,_,_,_,.v (.int .i64 (dx H.sl)),_,_,_,_,.v (.int .i64 (bi H.sw)),_,_,_,_,.v (.int .i64 (bi H.dk)),_,_,_,_,.v (.int .i64 (aP (cZ H.fi H.ct))),.r 25 ((WN w.heap.size H)),.v (.int .i64 5),_] (Gk rfl (Gk rfl (Gf b 0 rfl rfl (Gr (.agg #[.slice H.af H.m.fs.length H.cf,.int .i64 H.m.hand]) (fun ρ y W hb g=>(bF rfl (aC rfl g) (bL (hbk.ext hb) 0 2) underlying28 rfl (by kernel_rfl))) rfl rfl (ag ?_ (Gk rfl (Gk rfl (Gf b 2 rfl rfl (Gl hbk rfl rfl rfl rfl rfl (ag ?_ (Gk rfl (Gk rfl (Gf b 3 rfl rfl (Gr (.agg #[.slice H.wb H.sw.blocks.length H.cwb,.slice H.wq H.sw.queue.length H.cwq]) (fun ρ y W hb g=>(bF rfl (aC rfl g) (bL (hbk.ext hb) 3 2) underlying34 rfl (by kernel_rfl))) rfl rfl (ag ?_ (Gk rfl (Gk rfl (Gf b 5 rfl rfl (Gr (.agg #[.slice H.db H.dk.blocks.length H.cdb,.slice H.dq H.dk.queue.length H.cdq]) (fun ρ y W hb g=>(bF rfl (aC rfl g) (bL (hbk.ext hb) 5 2) underlying34 rfl (by kernel_rfl))) rfl rfl (ag ?_ (Gk rfl (Gk rfl (Gf b 7 rfl rfl (Gr (.agg #[.slice H.ai H.fi.length H.ci,.int .i64 H.ct]) (fun ρ y W hb g=>(bF rfl (aC rfl g) (bL (hbk.ext hb) 7 2) underlying37 rfl (by kernel_rfl))) rfl rfl (ag ?_ (ag ?_ (ag ?_ (Gr (.int .i64 0) (fun ρ y W hb g=>(run_move (.inl rfl) (aC rfl g))) rfl rfl (aB))))))))))))))))))))))))))))) (fun _=>rfl) rfl ?_
 ·intro ρ y W hw hn hb hd;have kw:=hw 12 3 rfl;have h3:y 3=_:=hd 3 rfl;have EF:∀f,ρ (.func f) = .func (.func f) #[] #[]:=fun f=>hn (.func f) trivial;refine aL _ _ (ah rfl) (aO rfl (EF _) func107 (by kernel_rfl) (by kernel_rfl) (by simp only[bH,bA,bB,kw,h3,EF];rfl)) ?_;refine (zt H.m _ _ W (h.below hb).fr).mono ?_;rintro r w1 ⟨rfl,p⟩;exact⟨_,rfl,p,rfl⟩
 ·intro ρ y W hw hn hb hd;have ku:=hw 17 8 rfl;have h8:y 8=_:=hd 8 rfl;have EF:∀f,ρ (.func f) = .func (.func f) #[] #[]:=fun f=>hn (.func f) trivial;refine aL _ _ (ah rfl) (aO rfl (EF _) func108 (by kernel_rfl) (by kernel_rfl) (by simp only[bH,bA,bB,ku,h8,EF];rfl)) ?_;refine (xk H.sl _ _ W (h.below hb).sl.rd (by have:=h.sl.le;have:=h.sl.mx;unfold maxLen at this;omega)).mono ?_;rintro r w1 ⟨rfl,rfl⟩;exact⟨_,rfl,Below.refl _ _,rfl⟩
 ·intro ρ y W hw hn hb hd;have ks:=hw 22 13 rfl;have kk:y 13=_:=hd 13 rfl;have EF:∀f,ρ (.func f) = .func (.func f) #[] #[]:=fun f=>hn (.func f) trivial;refine aL _ _ (ah rfl) (aO rfl (EF _) func93 (by kernel_rfl) (by kernel_rfl) (by simp only[bH,bA,bB,ks,kk,EF];rfl)) ?_;refine (rT H.sw _ _ _ _ W (h.below hb).sw).mono ?_;rintro r w1 ⟨rfl,p⟩;exact⟨_,rfl,p,rfl⟩
 ·intro ρ y W hw hn hb hd;have kq:=hw 27 18 rfl;have ki:y 18=_:=hd 18 rfl;have EF:∀f,ρ (.func f) = .func (.func f) #[] #[]:=fun f=>hn (.func f) trivial;refine aL _ _ (ah rfl) (aO rfl (EF _) func93 (by kernel_rfl) (by kernel_rfl) (by simp only[bH,bA,bB,kq,ki,EF];rfl)) ?_;refine (rT H.dk _ _ _ _ W (h.below hb).dk).mono ?_;rintro r w1 ⟨rfl,p⟩;exact⟨_,rfl,p,rfl⟩
 ·intro ρ y W hw hn hb hd;have ko:=hw 32 23 rfl;have kg:y 23=_:=hd 23 rfl;have EF:∀f,ρ (.func f) = .func (.func f) #[] #[]:=fun f=>hn (.func f) trivial;refine aL _ _ (ah rfl) (aO rfl (EF _) func109 (by kernel_rfl) (by kernel_rfl) (by simp only[bH,bA,bB,ko,kg,EF];rfl)) ?_;refine (DZ H.fi H.ct _ _ W (h.below hb).st h.c64).mono ?_;rintro r w1 ⟨rfl,p⟩;exact⟨_,rfl,p,rfl⟩
 ·intro ρ y W hw hn hb hd;have kv:=hw 13 4 rfl;have h4:y 4=_:=hd 4 rfl;have kt:=hw 18 9 rfl;have h9:y 9=_:=hd 9 rfl;have kr:=hw 23 14 rfl;have kj:y 14=_:=hd 14 rfl;have kp:=hw 28 19 rfl;have kh:y 19=_:=hd 19 rfl;have kn:=hw 33 24 rfl;have kf:y 24=_:=hd 24 rfl;refine jT (.slice (some ⟨W.heap.size,0,none⟩) 5 5) (ah rfl) (by simp[execOp,go_sem,kv.trans h4,kt.trans h9,kr.trans kj,kp.trans kh,kn.trans kf]) ((Below.refl _ _).alloc (az _) (.cells #[.int .i64 (bR H.m),.int .i64 (dx H.sl),.int .i64 (bi H.sw),.int .i64 (bi H.dk),.int .i64 (aP (cZ H.fi H.ct))] 43)) ?_;exact⟨_,rfl,aA.new _ _ _⟩
 ·intro ρ y W hw hn hb hd;have km:=hw 34 25 rfl;have ke:=hd 25 rfl;obtain⟨ge,hu,_⟩:=ke;refine aj (.int .i64 5) (ah rfl) (by simp[execOp,go_sem,km,hu]) rfl
 intro y W1 hG hI;have hV:((WN w.heap.size H)).r (y 25) W1:=hI 25 (by decide);clear hI;obtain⟨ge,hu,hW⟩:=hV;have hh:Below w.heap.size w W1:=hG;rw[hu];clear hu hG;go_upto_region 2 with (fail)
 go_loopw [36] (fun i wr => ∃(k:Nat),k≤5∧i = .int .i64 k∧Below w.heap.size w wr∧aA wr ge #[.int .i64 (bR H.m),.int .i64 (dx H.sl),.int .i64 (bi H.sw),.int .i64 (bi H.dk),.int .i64 (aP (cZ H.fi H.ct))] 43∧Hid (∀j,j<k→(IJ H.ma).getD j 0=0)) (fun i _=>5-(intOf i).toNat)
 case atStart=>exact⟨0,aW _,rfl,hh,hW,Lib.hid fun j hj=>absurd hj (eG _)⟩
 case round=>
  clear hh hW;obtain⟨k,hk,rfl,d,hx,hz⟩:=hrel
  by_cases hkl:k<5
  ·have hM:(k:Int)<5:=by omega
   have kb:wr.cell? ⟨ge,k,none⟩=some (.int .i64 ((IJ H.ma).getD k 0)):=by
    rw[hx.cell]
    match k,hkl with
    | 0,_=>rfl
    | 1,_=>rfl
    | 2,_=>rfl
    | 3,_=>rfl
    | 4,_=>rfl
    | n+5,h'=>omega
   by_cases h0:(IJ H.ma).getD k 0=0
   ·have hm:Hid (∀j,j<k+1→(IJ H.ma).getD j 0=0):=Lib.hid fun j hj=>by
     by_cases e:j=k
     ·rw[e];exact h0
     ·exact hz.out j (by omega)
    rw[h0] at kb;clear h0 hz;go_wp2;go_roundw
    case rel=>exact⟨k+1,by omega,by go_num,d,hx,hm⟩
    case measure=>simp[intOf];omega
   have hq:Hid (iq H.ma=(IJ H.ma).getD k 0):=Lib.hid (PV hkl hz.out h0);generalize (IJ H.ma).getD k 0=E at *
   clear hz;go_wp2;go_ret;rw[hq.out];exact⟨rfl,d⟩
  have hM:¬(k:Int)<5:=by omega
  have hU:=hz.out 0 (by omega);have hT:=hz.out 1 (by omega);have hm:=hz.out 2 (by omega);have hS:=hz.out 3 (by omega);have hR:=hz.out 4 (by omega);have e0:=Lib.hid (show bR H.m=0 from hU);have e1:=Lib.hid (show dx H.sl=0 from hT);have e2:=Lib.hid (show bi H.sw=0 from hm);have e3:=Lib.hid (show bi H.dk=0 from hS);have e4:=Lib.hid (show aP (cZ H.fi H.ct)=0 from hR);clear hU hT hm hS hR hz hx;have a:=hbk.ext d;have hr:=h.below d;have hP:Hid (iq H.ma=if H.sw.blocks.length≠H.sl.length∨(H.dk.blocks.length:Int)≠H.ct∨trimB H.ma=false then 7 else if 4<H.sp.length then 4 else firstE (H.ma.sp.map jO)):=Lib.hid (by unfold iq;rw[if_neg (by rw[show bR H.ma.m=0 from e0.out];simp),if_neg (by rw[show dx H.ma.sl=0 from e1.out];simp),if_neg (by rw[show bi H.ma.sw=0 from e2.out];simp),if_neg (by rw[show bi H.ma.dk=0 from e3.out];simp),if_neg (by rw[show aP H.ma.st=0 from e4.out];simp),Dq];rfl);go_upto_region 7 with (fail);have hf:=a.cell;unfold bS at hf
  by_cases c1:H.sw.blocks.length=H.sl.length
  ·by_cases c2:(H.dk.blocks.length:Int)=H.ct
   ·have c1i:(H.sw.blocks.length:Int)=(H.sl.length:Int):=by omega
    have hL:Hid (iq H.ma=if trimB H.ma=false then 7 else if 4<H.sp.length then 4 else firstE (H.ma.sp.map jO)):=Lib.hid (by
     rw[hP.out]
     by_cases ct:trimB H.ma=false
     ·rw[if_pos (.inr (.inr ct)),if_pos ct]
     ·rw[if_neg (by rintro (h | h | h);exact h c1;exact h c2;exact ct h),if_neg ct])
    refine aK 31 [_,_,_,_,_,_,_,_,_,_,_,_,_,_,_,_,_,_,_,_,_,_,_,_,_,_,_,_,.v (.bool (trimB H.ma)),_,.v (.bool (!trimB H.ma))] (Gk rfl (Gk rfl (Gf b 3 rfl rfl (Gf b 3 rfl rfl (Gl a rfl rfl rfl rfl rfl (Gn rfl rfl rfl rfl (Gk rfl (Gk rfl (Gf b 2 rfl rfl (Gl a rfl rfl rfl rfl rfl (Gn rfl rfl rfl rfl (Gb (.bool false) (by simp[go_sem,c1]) rfl rfl rfl rfl rfl (Gk rfl (Gk rfl (Gk rfl (Gf b 5 rfl rfl (Gf b 5 rfl rfl (Gl a rfl rfl rfl rfl rfl (Gn rfl rfl rfl rfl (Gk rfl (Gk rfl (Gf b 7 rfl rfl (Gf b 8 rfl rfl (Gl a rfl rfl rfl rfl rfl (Gb (.bool false) (by simp[go_sem,c2]) rfl rfl rfl rfl rfl (Gk rfl (Gk rfl (Gk rfl (ag ?_ (Gr (.bool (!trimB H.ma)) (fun ρ y W hb g=>ym rfl (aC rfl g)) rfl rfl (Gk rfl (aB)))))))))))))))))))))))))))))))) (fun _=>rfl) rfl ?_
    ·intro ρ y W hw hn hb hd;have kl:=hw 71 27 rfl;have kd:y 27=_:=hd 27 rfl;have EF:∀f,ρ (.func f) = .func (.func f) #[] #[]:=fun f=>hn (.func f) trivial;refine aL _ _ (aT 26 70 false false rfl rfl ((hw 70 26 rfl).trans (hd 26 rfl))) (aO rfl (EF _) func110 (by kernel_rfl) (by kernel_rfl) (by simp only[bH,bA,bB,kl,kd,EF];rfl)) ?_;refine (Lm H b W (a.ext hb) (hr.below hb) e4.out e3.out).mono ?_;rintro r w1 ⟨rfl,p⟩;exact⟨_,rfl,p,rfl⟩
    intro y W2 l _;have c:=ae d l;clear l;cases ht:trimB H.ma with
    | false=>
     have ha:Hid (iq H.ma=7):=Lib.hid (by rw[hL.out,if_pos ht]);clear c1 c2 c1i;go_wp2;go_ret;rw[ha.out];exact⟨rfl,c⟩
    | true=>
     have hK:Hid (iq H.ma=if 4<H.sp.length then 4 else firstE (H.ma.sp.map jO)):=Lib.hid (by rw[hL.out,if_neg (by rw[ht];decide)]);clear c1 c2 c1i hf ht;have h6:=h.below c;have hf:=(hbk.ext c).cell;unfold bS at hf;clear hr a hP hL d
     by_cases c4:4<H.sp.length
     ·have hs:Hid (iq H.ma=4):=Lib.hid (by rw[hK.out,if_pos c4]);have c4i:(4:Int)<(H.sp.length:Int):=by omega
      clear c4;go_wp2;go_ret;rw[hs.out];exact⟨rfl,c⟩
     have hs:Hid (iq H.ma=firstE (H.ma.sp.map jO)):=Lib.hid (by rw[hK.out,if_neg c4]);have c4i:¬(4:Int)<(H.sp.length:Int):=by omega
     have hC:Hid ((H.ma.sp.map jO).length=H.sp.length):=Lib.hid (by rw[eH,Dq]);clear c4 hK;go_upto_region 12 with (fail);clear hf h6
     go_loopw [86] (fun i wr => ∃(k:Nat),k≤H.sp.length∧i = .int .i64 k∧Below w.heap.size w wr∧Hid (∀j (hj:j<(H.ma.sp.map jO).length),j<k→(H.ma.sp.map jO)[j]=0)) (fun i _=>H.sp.length-(intOf i).toNat)
     case atStart=>exact⟨0,aW _,rfl,c,Lib.hid fun j _ hj=>absurd hj (eG _)⟩
     case round=>
      clear c;obtain⟨k,hk,rfl,d,hz⟩:=hrel
      by_cases hkl:k<H.sp.length
      ·obtain⟨bs,os,P,kc,hP,hX⟩:=wN (h.below d).sp.rd k hkl;have t:=qU (h.below d) hP;have hM:(k:Int)<(H.sp.length:Int):=by omega
       have hZ:k<(H.ma.sp.map jO).length:=by rw[hC.out];exact hkl
       have hE:Hid ((H.ma.sp.map jO)[k]=jO P.sp):=Lib.hid (by
        rw[vQ];congr 1;have:H.ma.sp[k]?=some P.sp:=by show (H.sp.map PS.sp)[k]?=_;rw[iU,hP];rfl
        exact (dn.1 this).2)
       have hc:Hid (jO P.sp≠0→iq H.ma=jO P.sp):=Lib.hid fun h7=>by rw[hs.out,xX k hZ hz.out (by rw[hE.out];exact h7),hE.out]
       have hY:Hid (jO P.sp=0→∀j (hj:j<(H.ma.sp.map jO).length),j<k+1→(H.ma.sp.map jO)[j]=0):=Lib.hid fun h0 j hj kz=>by
        by_cases e:j=k
        ·subst e;rw[hE.out];exact h0
        ·exact hz.out j hj (by omega)
       have o:Hid (jO P.sp=if (bJ P.ar).1≠0 then (bJ P.ar).1 else if dh P.tb≠0 then dh P.tb else if P.lv=false∧0<P.ar.length+(aQ P.tb).length then 7 else 0):=Lib.hid rfl;rw[kc];clear hz hP hE hZ;have hB:(uM P).all (·.oneCell')=true:=by rw[←jr,dF];exact t.one
       go_wp2_with (first | (refine ax _ _ rfl bs (os+k*10) rfl rfl _ hX _ underlying55 rfl space_size ?_) | (refine aF rfl _ _ _ rfl (uM P) rfl rfl rfl space_size hB ?_))
       intro w3 hQ fx3;have hF:=ae d hQ;have hN:=t.below hQ;have ka:=fx3.lt;generalize wr.heap.size=gs at fx3 ka ⊢;clear d hQ hX t hB;have h1:=fx3.cell;unfold uM at h1;have hA:=hN.ars
       go_wp2_with fail
       refine (LH P.ar P.aa P.ac _ hA.rd (by have:=hA.le;have:=hA.mx;unfold maxLen at this;omega)).mono ?_;rintro r w3' ⟨rfl,z⟩;have fx3':=fx3.ext z;have hg:=ae hF z;have hD:=hN.below z;clear h1 fx3 hF hN z hA
       go_wp2_with (refine aF rfl _ _ _ rfl (Ka (bJ P.ar)) rfl rfl rfl fau_size (by simp[Ka,Value.oneCell']) ?_)
       intro w4 hy ux;have fx:=fx3'.ext hy;have q:=ae hg hy;have u:=hD.below hy;clear fx3' hg hD hy;have hO:=ux.cell;unfold Ka at hO
       by_cases c5:(bJ P.ar).1=0
       ·rw[if_neg (by rw[c5];simp)] at o;rw[c5] at hO;have kA:=(vg c5).1;have ky:(aQ P.tb).length≤64:=sJ P.tb 64;have hp:IntKind.i64.wrap ((P.ar.length:Int)+((aQ P.tb).length:Int))=(P.ar.length:Int)+((aQ P.tb).length:Int):=bO _ (by omega);go_upto_region 17 with (fail);clear hO ux c5
        go_wp2_with (refine ax _ _ rfl gs 2 rfl rfl _ (bL fx 2 8) _ underlying53 tab_agg tab_size ?_)
        refine (ER P.tb (nG P.ts) _ u.tb).mono ?_;rintro r w6 ⟨rfl,hv⟩;replace fx:=fx.ext hv;replace q:=ae q hv;replace u:=u.below hv;clear hv
        by_cases c6:dh P.tb=0
        ·rw[if_neg (by rw[c6];simp)] at o;rw[c6];go_upto_region 20 with (fail);cases hlv:P.lv with
         | true=>
          have hJ:Hid (jO P.sp=0):=Lib.hid (by rw[o.out,if_neg (by rw[hlv];simp)]);refine aK 14 [_,_,_,_,_,_,_,_,_,_,_,_,_,.v (.bool false)] (Gf gs 0 rfl rfl (Gl fx (V:=.bool true) (by simp[uM,hlv]) rfl rfl rfl rfl (Gk rfl (Gk rfl (Gk rfl (Gk rfl (Gk rfl (Gk rfl (Gk rfl (Gk rfl (Gk rfl (Gk rfl (Gk rfl (Gk rfl (aB))))))))))))))) (fun _=>rfl) rfl ?_;intro y W5 s _;have x:=ae q s;clear s;have hl:=Lib.hid (hY.out hJ.out);clear hp fx u;go_wp2;go_roundw
          case rel=>exact⟨k+1,by omega,by go_num,x,hl⟩
          case measure=>simp[intOf];omega
         | false=>
          refine aK 14 [_,_,_,_,_,_,_,_,_,.r 9 ((pJ w6.heap.size 3 1 (aQ P.tb).length ((aQ P.tb).map gB))),.v (.int .i64 (aQ P.tb).length),_,_,.v (.bool (decide (0<(P.ar.length:Int)+((aQ P.tb).length:Int))))] (Gf gs 0 rfl rfl (Gl fx (V:=.bool false) (by simp[uM,hlv]) rfl rfl rfl rfl (Gk rfl (Gk rfl (Gf gs 1 rfl rfl (Gl fx rfl rfl rfl rfl rfl (Gn rfl rfl rfl rfl (Gf gs 2 rfl rfl (Gr (.agg (nG P.ts)) (fun ρ y W hb g=>(bF rfl (aC rfl g) (bL (fx.ext hb) 2 8) underlying53 tab_agg tab_size)) rfl rfl (ag ?_ (ag ?_ (Gb (.int .i64 ((P.ar.length:Int)+((aQ P.tb).length:Int))) (by simp[go_sem,hp]) rfl rfl rfl rfl rfl (Gb (.bool (decide (0<(P.ar.length:Int)+((aQ P.tb).length:Int)))) (by simp[go_sem]) rfl rfl rfl rfl rfl (Gk rfl (aB))))))))))))))) (fun _=>rfl) rfl ?_
          ·intro ρ y W hw hn hb hd;have h5:=hw 112 8 rfl;have h8:y 8=_:=hd 8 rfl;have EF:∀f,ρ (.func f) = .func (.func f) #[] #[]:=fun f=>hn (.func f) trivial;refine aL _ _ (aT 3 107 true true rfl rfl ((hw 107 3 rfl).trans (hd 3 rfl))) (aO rfl (EF _) func42 (by kernel_rfl) (by kernel_rfl) (by simp only[bH,bA,bB,h5,h8,EF];rfl)) ?_;refine (yX P.tb (nG P.ts) W (u.below hb).tb).mono ?_;rintro r w1 ⟨v,rfl,ho,p⟩;exact⟨_,rfl,p,ho.mono hb.size⟩
          ·intro ρ y W hw hn hb hd;have h2:=hw 113 9 rfl;have h9:=hd 9 rfl;obtain⟨a9,c9,e9,_⟩:=Own.rd h9;refine aj (.int .i64 (aQ P.tb).length) (aT 3 107 true true rfl rfl ((hw 107 3 rfl).trans (hd 3 rfl))) (KC rfl (h2.trans e9) rfl) rfl
          intro y W5 s hH;have kx:((pJ w6.heap.size 3 1 (aQ P.tb).length ((aQ P.tb).map gB))).r (y 9) W5:=hH 9 (by decide);clear hH;have x:=ae q s;clear s
          by_cases c7:0<P.ar.length+(aQ P.tb).length
          ·have hq:Hid (iq H.ma=7):=Lib.hid (by rw[hc.out (by rw[o.out,if_pos ⟨hlv,c7⟩];decide),o.out,if_pos ⟨hlv,c7⟩]);have hd:decide (0<(P.ar.length:Int)+((aQ P.tb).length:Int))=true:=decide_eq_true (by omega);rw[hd];clear hp fx u hd c7;go_wp2;go_ret;rw[hq.out];exact⟨rfl,x⟩
          have hJ:Hid (jO P.sp=0):=Lib.hid (by rw[o.out,if_neg (fun h'=>c7 h'.2)]);have hl:=Lib.hid (hY.out hJ.out);have hd:decide (0<(P.ar.length:Int)+((aQ P.tb).length:Int))=false:=decide_eq_false (by omega);rw[hd];clear hp fx u hd c7;go_wp2;go_roundw
          case rel=>exact⟨k+1,by omega,by go_num,x,hl⟩
          case measure=>simp[intOf];omega
        rw[if_pos c6] at o;have hq:Hid (iq H.ma=dh P.tb):=Lib.hid (by rw[hc.out (by rw[o.out];exact c6),o.out]);generalize dh P.tb=E at *
        go_wp2;go_ret;rw[hq.out];exact⟨rfl,q⟩
       rw[if_pos c5] at o;have hq:Hid (iq H.ma=(bJ P.ar).1):=Lib.hid (by rw[hc.out (by rw[o.out];exact c5),o.out]);generalize (bJ P.ar).1=E at *
       go_wp2;go_ret;rw[hq.out];exact⟨rfl,q⟩
      have hM:¬(k:Int)<(H.sp.length:Int):=by omega
      have hq:Hid (iq H.ma=0):=Lib.hid (by rw[hs.out,tX fun i hi=>hz.out i hi (by rw[hC.out] at hi;omega)]);clear hz;go_wp2;go_ret;rw[hq.out];exact⟨rfl,d⟩
   have ha:Hid (iq H.ma=7):=Lib.hid (by rw[hP.out,if_pos (.inr (.inl c2))]);refine aK 31 [_,_,_,_,_,_,_,_,_,_,_,_,_,_,_,_,_,_,_,_,_,_,_,_,_,_,_,_,_,_,.v (.bool true)] (Gk rfl (Gk rfl (Gf b 3 rfl rfl (Gf b 3 rfl rfl (Gl a rfl rfl rfl rfl rfl (Gn rfl rfl rfl rfl (Gk rfl (Gk rfl (Gf b 2 rfl rfl (Gl a rfl rfl rfl rfl rfl (Gn rfl rfl rfl rfl (Gb (.bool false) (by simp[go_sem,c1]) rfl rfl rfl rfl rfl (Gk rfl (Gk rfl (Gk rfl (Gf b 5 rfl rfl (Gf b 5 rfl rfl (Gl a rfl rfl rfl rfl rfl (Gn rfl rfl rfl rfl (Gk rfl (Gk rfl (Gf b 7 rfl rfl (Gf b 8 rfl rfl (Gl a rfl rfl rfl rfl rfl (Gb (.bool true) (by simp[go_sem,c2]) rfl rfl rfl rfl rfl (Gk rfl (Gk rfl (Gk rfl (Gk rfl (Gk rfl (Gk rfl (aB)))))))))))))))))))))))))))))))) (fun _=>rfl) rfl ?_;intro y W2 l _;have c:=ae d l;clear l;clear c1 c2;go_wp2;go_ret;rw[ha.out];exact⟨rfl,c⟩
  have ha:Hid (iq H.ma=7):=Lib.hid (by rw[hP.out,if_pos (.inl c1)]);have c1i:¬((H.sw.blocks.length:Int)=(H.sl.length:Int)):=by omega
  have c2:=c1;refine aK 31 [_,_,_,_,_,_,_,_,_,_,_,_,_,_,_,_,_,_,_,_,_,_,_,_,_,_,_,_,_,_,.v (.bool true)] (Gk rfl (Gk rfl (Gf b 3 rfl rfl (Gf b 3 rfl rfl (Gl a rfl rfl rfl rfl rfl (Gn rfl rfl rfl rfl (Gk rfl (Gk rfl (Gf b 2 rfl rfl (Gl a rfl rfl rfl rfl rfl (Gn rfl rfl rfl rfl (Gb (.bool true) (by simp[go_sem,c1i]) rfl rfl rfl rfl rfl (Gk rfl (Gk rfl (Gk rfl (Gk rfl (Gk rfl (Gk rfl (Gk rfl (Gk rfl (Gk rfl (Gk rfl (Gk rfl (Gk rfl (Gk rfl (Gk rfl (Gk rfl (Gk rfl (Gk rfl (Gk rfl (Gk rfl (aB)))))))))))))))))))))))))))))))) (fun _=>rfl) rfl ?_;intro y W2 l _;have c:=ae d l;clear l;clear c1 c1i c2;go_wp2;go_ret;rw[ha.out];exact⟨rfl,c⟩
theorem uV {p:Option Cc} {c:Cc} (h:c.f<0∨(m.st.fs.length:Int)≤c.f∨c.i<0∨((aM m.st c.f).b.length:Int)≤c.i∨c.k<0∨(m.m.fs.length:Int)≤c.k):uA m p c=3:=by
 unfold uA;rw[if_pos h]
theorem Ms (H:MH) (b:Nat) (w:World) (hbk:aA w b (bS H) 41) (h:BH w H) :
  Calls Tryz.prog 67 #[.pointer (some ⟨b,0,none⟩)] w fun r w'=>r = .returned (.int .i64 (cachedE H.ma))∧Below w.heap.size w w':=by
 have ku:=h.ca.le;have kp:=h.ca.mx;unfold maxLen at kp;go_enter func67,ntmps67;have kf:=hbk.cell;unfold bS at kf;obtain⟨L,hL⟩:∃L,L=(List.range H.ca.length).map fun k=>uA H.ma (yJ H.ca k) (H.ca.getD k zCc):=⟨_,rfl⟩;have kl:Hid (L.length=H.ca.length):=Lib.hid (by rw[hL];simp);have km:Hid (cachedE H.ma=firstE L):=Lib.hid (by rw[hL];rfl);have ks:Hid (∀k (hk:k<L.length),L[k]=uA H.ma (yJ H.ca k) (H.ca.getD k zCc)):=Lib.hid fun k hk=>by simp[hL]
 clear hL;go_upto_region 2 with (fail);clear kf
 go_loopw [11] (fun i wr => ∃(k:Nat),k≤H.ca.length∧i = .int .i64 k∧Below w.heap.size w wr∧Hid (∀j (hj:j<L.length),j<k→L[j]=0)) (fun i _=>H.ca.length-(intOf i).toNat)
 case atStart=>exact⟨0,aW _,rfl,Below.refl _ _,Lib.hid fun j _ hj=>absurd hj (eG _)⟩
 case round=>
  obtain⟨k,hk,rfl,hN,hz⟩:=hrel
  by_cases hkl:k<H.ca.length
  ·obtain⟨bc,oc,hv,h4⟩:=jH pR (by decide) (h.below hN).ca.rd k hkl;have kq:(k:Int)<(H.ca.length:Int):=by omega
   have hX:k<L.length:=by rw[kl.out];exact hkl
   have hE:Hid (L[k]=uA H.ma (yJ H.ca k) H.ca[k]):=Lib.hid (by rw[ks.out k hX,aV,aI hkl];rfl);have ha:Hid (L[k]≠0→cachedE H.ma=L[k]):=Lib.hid fun ko=>by rw[km.out,xX k hX hz.out ko]
   have hW:Hid (L[k]=0→∀j (hj:j<L.length),j<k+1→L[j]=0):=Lib.hid fun h0 j hj kv=>by
    by_cases e:j=k
    ·subst e;exact h0
    ·exact hz.out j hj (by omega)
   generalize hLk:L[k]=Lk at *
   have h6:Hid (yJ H.ca k=if k=0 then none else H.ca[k-1]?):=Lib.hid rfl;generalize hc:H.ca[k]=c at *
   rw[hv];clear hz hX hLk hc
   go_wp2_with (first | (refine ax _ _ rfl bc (oc+k*3) rfl rfl _ h4 _ underlying106 rfl cached_size ?_) | (refine aF rfl _ _ _ rfl (Bf c) rfl rfl rfl cached_size (wm c) ?_))
   intro w3 kj cx;have ht:=ae hN kj;have z:=hbk.ext ht;have hV:=h.below ht;generalize wr.heap.size=gc at cx ⊢;clear kj h4 hN;go_upto_region 4 with (fail);obtain⟨bf,of,F,P,hl,hg,hu,hr⟩:∃(bf of F:Nat) (P:PF),(0≤c.f→c.f<H.fi.length→H.ai=some ⟨bf,of,none⟩)∧(0≤c.f→c.f<H.fi.length→F<H.fi.length)∧(0≤c.f→c.f<H.fi.length→c.f=(F:Int)∧aM H.ma.st c.f=P.fi)∧(0≤c.f→c.f<H.fi.length→∀W,Below w3.heap.size w3 W→W.cell? ⟨bf,of+F*2+1,none⟩=some (.slice P.a P.l.length P.c)):=by
    by_cases hc0:0≤c.f∧c.f<H.fi.length
    ·have hg:c.f.toNat<H.fi.length:=by omega
     obtain⟨bf,of,P,hl,hP,kw,hr⟩:=DT hV.st.rd c.f.toNat hg;refine⟨bf,of,c.f.toNat,P,fun _ _=>hl,fun _ _=>hg,fun _ _=>⟨by omega,?_⟩,fun _ _ W hb => ?_⟩
     ·have:(H.fi.map PF.fi)[c.f.toNat]?=some P.fi:=by rw[iU,hP];rfl
      have h2:=mW (s:=H.ma.st) (F:=c.f.toNat) this;rw[←h2];congr 1;omega
     obtain⟨bf',of',P',hS,kk,kt,kd⟩:=DT (hV.below hb).st.rd c.f.toNat hg;rw[hP] at kk;cases kk;rw[hl] at hS;cases hS;exact kd
    ·exact⟨0,0,0,⟨0,none,[],0⟩,fun h1 h2=>absurd ⟨h1,h2⟩ hc0,fun h1 h2=>absurd ⟨h1,h2⟩ hc0,fun h1 h2=>absurd ⟨h1,h2⟩ hc0,fun h1 h2=>absurd ⟨h1,h2⟩ hc0⟩
   by_cases c1:c.f<0
   ·have t:Hid (c.f<0∨(H.ma.st.fs.length:Int)≤c.f∨c.i<0∨((aM H.ma.st c.f).b.length:Int)≤c.i∨c.k<0∨(H.ma.m.fs.length:Int)≤c.k):=Lib.hid (.inl c1);refine aK 51 [_,_,_,_,_,_,_,_,_,_,_,_,_,_,_,_,_,_,_,_,_,_,_,_,_,_,_,_,_,_,_,_,_,_,_,_,_,_,_,_,_,_,_,_,_,_,_,_,_,_,.v (.bool true)] (Gf gc 0 rfl rfl (Gl cx rfl rfl rfl rfl rfl (Gb (.bool true) (by simp[go_sem,c1]) rfl rfl rfl rfl rfl (Gk rfl (Gk rfl (Gk rfl (Gk rfl (Gk rfl (Gk rfl (Gk rfl (Gk rfl (Gk rfl (Gk rfl (Gk rfl (Gk rfl (Gk rfl (Gk rfl (Gk rfl (Gk rfl (Gk rfl (Gk rfl (Gk rfl (Gk rfl (Gk rfl (Gk rfl (Gk rfl (Gk rfl (Gk rfl (Gk rfl (Gk rfl (Gk rfl (Gk rfl (Gk rfl (Gk rfl (Gk rfl (Gk rfl (Gk rfl (Gk rfl (Gk rfl (Gk rfl (Gk rfl (Gk rfl (Gk rfl (Gk rfl (Gk rfl (Gk rfl (Gk rfl (Gk rfl (Gk rfl (Gk rfl (Gk rfl (aB)))))))))))))))))))))))))))))))))))))))))))))))))))) (fun _=>rfl) rfl ?_;intro y W4 g _;have p:=ae ht g;replace cx:=cx.ext g;clear g;have hf:Hid (Lk=3):=Lib.hid (by rw[hE.out];exact uV t.out);have hq:Hid (cachedE H.ma=3):=Lib.hid (by rw[ha.out (by rw[hf.out];decide),hf.out]);clear hl hg hu hr;go_wp2;go_ret;rw[hq.out];exact⟨rfl,p⟩
   have hY:Hid (H.ma.st.fs.length=H.fi.length):=Lib.hid (eH _)
   by_cases c2:(H.fi.length:Int)≤c.f
   ·have t:Hid (c.f<0∨(H.ma.st.fs.length:Int)≤c.f∨c.i<0∨((aM H.ma.st c.f).b.length:Int)≤c.i∨c.k<0∨(H.ma.m.fs.length:Int)≤c.k):=Lib.hid (.inr (.inl (by rw[hY.out];exact c2)));refine aK 51 [_,_,_,_,_,_,_,_,_,_,_,_,_,_,_,_,_,_,_,_,_,_,_,_,_,_,_,_,_,_,_,_,_,_,_,_,_,_,_,_,_,_,_,_,_,_,_,_,_,_,.v (.bool true)] (Gf gc 0 rfl rfl (Gl cx rfl rfl rfl rfl rfl (Gb (.bool false) (by simp[go_sem,c1]) rfl rfl rfl rfl rfl (Gk rfl (Gf gc 0 rfl rfl (Gl cx rfl rfl rfl rfl rfl (Gk rfl (Gk rfl (Gf b 7 rfl rfl (Gf b 7 rfl rfl (Gl z rfl rfl rfl rfl rfl (Gn rfl rfl rfl rfl (Gb (.bool true) (by simp[go_sem,c2]) rfl rfl rfl rfl rfl (Gk rfl (Gk rfl (Gk rfl (Gk rfl (Gk rfl (Gk rfl (Gk rfl (Gk rfl (Gk rfl (Gk rfl (Gk rfl (Gk rfl (Gk rfl (Gk rfl (Gk rfl (Gk rfl (Gk rfl (Gk rfl (Gk rfl (Gk rfl (Gk rfl (Gk rfl (Gk rfl (Gk rfl (Gk rfl (Gk rfl (Gk rfl (Gk rfl (Gk rfl (Gk rfl (Gk rfl (Gk rfl (Gk rfl (Gk rfl (Gk rfl (Gk rfl (Gk rfl (Gk rfl (aB)))))))))))))))))))))))))))))))))))))))))))))))))))) (fun _=>rfl) rfl ?_;intro y W4 g _;have p:=ae ht g;replace cx:=cx.ext g;clear g;have hf:Hid (Lk=3):=Lib.hid (by rw[hE.out];exact uV t.out);have hq:Hid (cachedE H.ma=3):=Lib.hid (by rw[ha.out (by rw[hf.out];decide),hf.out]);clear hl hg hu hr;go_wp2;go_ret;rw[hq.out];exact⟨rfl,p⟩
   replace hl:=hl (by omega) (by omega);replace hg:=hg (by omega) (by omega);obtain⟨hu,kb⟩:=hu (by omega) (by omega);replace hr:=hr (by omega) (by omega);have hG:=Lib.hid kb;clear kb
   by_cases c3:c.i<0
   ·have t:Hid (c.f<0∨(H.ma.st.fs.length:Int)≤c.f∨c.i<0∨((aM H.ma.st c.f).b.length:Int)≤c.i∨c.k<0∨(H.ma.m.fs.length:Int)≤c.k):=Lib.hid (.inr (.inr (.inl c3)));refine aK 51 [_,_,_,_,_,_,_,_,_,_,_,_,_,_,_,_,_,_,_,_,_,_,_,_,_,_,_,_,_,_,_,_,_,_,_,_,_,_,_,_,_,_,_,_,_,_,_,_,_,_,.v (.bool true)] (Gf gc 0 rfl rfl (Gl cx rfl rfl rfl rfl rfl (Gb (.bool false) (by simp[go_sem,c1]) rfl rfl rfl rfl rfl (Gk rfl (Gf gc 0 rfl rfl (Gl cx rfl rfl rfl rfl rfl (Gk rfl (Gk rfl (Gf b 7 rfl rfl (Gf b 7 rfl rfl (Gl z rfl rfl rfl rfl rfl (Gn rfl rfl rfl rfl (Gb (.bool false) (by simp[go_sem,c2]) rfl rfl rfl rfl rfl (Gk rfl (Gk rfl (Gf gc 1 rfl rfl (Gl cx rfl rfl rfl rfl rfl (Gb (.bool true) (by simp[go_sem,c3]) rfl rfl rfl rfl rfl (Gk rfl (Gk rfl (Gk rfl (Gk rfl (Gk rfl (Gk rfl (Gk rfl (Gk rfl (Gk rfl (Gk rfl (Gk rfl (Gk rfl (Gk rfl (Gk rfl (Gk rfl (Gk rfl (Gk rfl (Gk rfl (Gk rfl (Gk rfl (Gk rfl (Gk rfl (Gk rfl (Gk rfl (Gk rfl (Gk rfl (Gk rfl (Gk rfl (Gk rfl (Gk rfl (Gk rfl (Gk rfl (Gk rfl (aB)))))))))))))))))))))))))))))))))))))))))))))))))))) (fun _=>rfl) rfl ?_;intro y W4 g _;have p:=ae ht g;replace cx:=cx.ext g;clear g;have hf:Hid (Lk=3):=Lib.hid (by rw[hE.out];exact uV t.out);have hq:Hid (cachedE H.ma=3):=Lib.hid (by rw[ha.out (by rw[hf.out];decide),hf.out]);clear hl hg hu hr;go_wp2;go_ret;rw[hq.out];exact⟨rfl,p⟩
   by_cases c4:(P.l.length:Int)≤c.i
   ·have t:Hid (c.f<0∨(H.ma.st.fs.length:Int)≤c.f∨c.i<0∨((aM H.ma.st c.f).b.length:Int)≤c.i∨c.k<0∨(H.ma.m.fs.length:Int)≤c.k):=Lib.hid (.inr (.inr (.inr (.inl (by rw[hG.out];exact c4)))));refine aK 51 [_,_,_,_,_,_,_,_,_,_,_,_,_,_,_,_,_,_,_,_,_,_,_,_,_,_,_,_,_,_,_,_,_,_,_,_,_,_,_,_,_,_,_,_,_,_,_,_,_,_,.v (.bool true)] (Gf gc 0 rfl rfl (Gl cx rfl rfl rfl rfl rfl (Gb (.bool false) (by simp[go_sem,c1]) rfl rfl rfl rfl rfl (Gk rfl (Gf gc 0 rfl rfl (Gl cx rfl rfl rfl rfl rfl (Gk rfl (Gk rfl (Gf b 7 rfl rfl (Gf b 7 rfl rfl (Gl z rfl rfl rfl rfl rfl (Gn rfl rfl rfl rfl (Gb (.bool false) (by simp[go_sem,c2]) rfl rfl rfl rfl rfl (Gk rfl (Gk rfl (Gf gc 1 rfl rfl (Gl cx rfl rfl rfl rfl rfl (Gb (.bool false) (by simp[go_sem,c3]) rfl rfl rfl rfl rfl (Gk rfl (Gk rfl (Gf gc 1 rfl rfl (Gl cx rfl rfl rfl rfl rfl (Gk rfl (Gk rfl (Gf b 7 rfl rfl (Gf b 7 rfl rfl (Gl z (V:=.slice (some ⟨bf,of,none⟩) H.fi.length H.ci) (by simp[bS,hl]) rfl rfl rfl rfl (Gf gc 0 rfl rfl (Gl cx (V:=.int .i64 (F:Int)) (by simp[Bf,hu]) rfl rfl rfl rfl (Gr (.pointer (some ⟨bf,of+F*2,none⟩)) (fun ρ y W hb d=>(bG rfl (aC rfl d) (aC rfl d) hg underlying35 file_size)) rfl rfl (Gf bf (of+F*2+1) rfl rfl (Gc (.slice P.a P.l.length P.c) (fun W hb=>by simp[hr _ hb]) rfl rfl rfl rfl (Gn rfl rfl rfl rfl (Gb (.bool true) (by simp[go_sem,c4]) rfl rfl rfl rfl rfl (Gk rfl (Gk rfl (Gk rfl (Gk rfl (Gk rfl (Gk rfl (Gk rfl (Gk rfl (Gk rfl (Gk rfl (Gk rfl (Gk rfl (Gk rfl (Gk rfl (Gk rfl (Gk rfl (Gk rfl (aB)))))))))))))))))))))))))))))))))))))))))))))))))))) (fun _=>rfl) rfl ?_;intro y W4 g _;have p:=ae ht g;replace cx:=cx.ext g;clear g;have hf:Hid (Lk=3):=Lib.hid (by rw[hE.out];exact uV t.out);have hq:Hid (cachedE H.ma=3):=Lib.hid (by rw[ha.out (by rw[hf.out];decide),hf.out]);clear hl hg hu hr;go_wp2;go_ret;rw[hq.out];exact⟨rfl,p⟩
   by_cases c5:c.k<0
   ·have t:Hid (c.f<0∨(H.ma.st.fs.length:Int)≤c.f∨c.i<0∨((aM H.ma.st c.f).b.length:Int)≤c.i∨c.k<0∨(H.ma.m.fs.length:Int)≤c.k):=Lib.hid (.inr (.inr (.inr (.inr (.inl c5)))));refine aK 51 [_,_,_,_,_,_,_,_,_,_,_,_,_,_,_,_,_,_,_,_,_,_,_,_,_,_,_,_,_,_,_,_,_,_,_,_,_,_,_,_,_,_,_,_,_,_,_,_,_,_,.v (.bool true)] (Gf gc 0 rfl rfl (Gl cx rfl rfl rfl rfl rfl (Gb (.bool false) (by simp[go_sem,c1]) rfl rfl rfl rfl rfl (Gk rfl (Gf gc 0 rfl rfl (Gl cx rfl rfl rfl rfl rfl (Gk rfl (Gk rfl (Gf b 7 rfl rfl (Gf b 7 rfl rfl (Gl z rfl rfl rfl rfl rfl (Gn rfl rfl rfl rfl (Gb (.bool false) (by simp[go_sem,c2]) rfl rfl rfl rfl rfl (Gk rfl (Gk rfl (Gf gc 1 rfl rfl (Gl cx rfl rfl rfl rfl rfl (Gb (.bool false) (by simp[go_sem,c3]) rfl rfl rfl rfl rfl (Gk rfl (Gk rfl (Gf gc 1 rfl rfl (Gl cx rfl rfl rfl rfl rfl (Gk rfl (Gk rfl (Gf b 7 rfl rfl (Gf b 7 rfl rfl (Gl z (V:=.slice (some ⟨bf,of,none⟩) H.fi.length H.ci) (by simp[bS,hl]) rfl rfl rfl rfl (Gf gc 0 rfl rfl (Gl cx (V:=.int .i64 (F:Int)) (by simp[Bf,hu]) rfl rfl rfl rfl (Gr (.pointer (some ⟨bf,of+F*2,none⟩)) (fun ρ y W hb d=>(bG rfl (aC rfl d) (aC rfl d) hg underlying35 file_size)) rfl rfl (Gf bf (of+F*2+1) rfl rfl (Gc (.slice P.a P.l.length P.c) (fun W hb=>by simp[hr _ hb]) rfl rfl rfl rfl (Gn rfl rfl rfl rfl (Gb (.bool false) (by simp[go_sem,c4]) rfl rfl rfl rfl rfl (Gk rfl (Gk rfl (Gf gc 2 rfl rfl (Gl cx rfl rfl rfl rfl rfl (Gb (.bool true) (by simp[go_sem,c5]) rfl rfl rfl rfl rfl (Gk rfl (Gk rfl (Gk rfl (Gk rfl (Gk rfl (Gk rfl (Gk rfl (Gk rfl (Gk rfl (Gk rfl (Gk rfl (Gk rfl (aB)))))))))))))))))))))))))))))))))))))))))))))))))))) (fun _=>rfl) rfl ?_;intro y W4 g _;have p:=ae ht g;replace cx:=cx.ext g;clear g;have hf:Hid (Lk=3):=Lib.hid (by rw[hE.out];exact uV t.out);have hq:Hid (cachedE H.ma=3):=Lib.hid (by rw[ha.out (by rw[hf.out];decide),hf.out]);clear hl hg hu hr;go_wp2;go_ret;rw[hq.out];exact⟨rfl,p⟩
   by_cases c6:(H.m.fs.length:Int)≤c.k
   ·have t:Hid (c.f<0∨(H.ma.st.fs.length:Int)≤c.f∨c.i<0∨((aM H.ma.st c.f).b.length:Int)≤c.i∨c.k<0∨(H.ma.m.fs.length:Int)≤c.k):=Lib.hid (.inr (.inr (.inr (.inr (.inr c6)))));refine aK 51 [_,_,_,_,_,_,_,_,_,_,_,_,_,_,_,_,_,_,_,_,_,_,_,_,_,_,_,_,_,_,_,_,_,_,_,_,_,_,_,_,_,_,_,_,_,_,_,_,_,_,.v (.bool true)] (Gf gc 0 rfl rfl (Gl cx rfl rfl rfl rfl rfl (Gb (.bool false) (by simp[go_sem,c1]) rfl rfl rfl rfl rfl (Gk rfl (Gf gc 0 rfl rfl (Gl cx rfl rfl rfl rfl rfl (Gk rfl (Gk rfl (Gf b 7 rfl rfl (Gf b 7 rfl rfl (Gl z rfl rfl rfl rfl rfl (Gn rfl rfl rfl rfl (Gb (.bool false) (by simp[go_sem,c2]) rfl rfl rfl rfl rfl (Gk rfl (Gk rfl (Gf gc 1 rfl rfl (Gl cx rfl rfl rfl rfl rfl (Gb (.bool false) (by simp[go_sem,c3]) rfl rfl rfl rfl rfl (Gk rfl (Gk rfl (Gf gc 1 rfl rfl (Gl cx rfl rfl rfl rfl rfl (Gk rfl (Gk rfl (Gf b 7 rfl rfl (Gf b 7 rfl rfl (Gl z (V:=.slice (some ⟨bf,of,none⟩) H.fi.length H.ci) (by simp[bS,hl]) rfl rfl rfl rfl (Gf gc 0 rfl rfl (Gl cx (V:=.int .i64 (F:Int)) (by simp[Bf,hu]) rfl rfl rfl rfl (Gr (.pointer (some ⟨bf,of+F*2,none⟩)) (fun ρ y W hb d=>(bG rfl (aC rfl d) (aC rfl d) hg underlying35 file_size)) rfl rfl (Gf bf (of+F*2+1) rfl rfl (Gc (.slice P.a P.l.length P.c) (fun W hb=>by simp[hr _ hb]) rfl rfl rfl rfl (Gn rfl rfl rfl rfl (Gb (.bool false) (by simp[go_sem,c4]) rfl rfl rfl rfl rfl (Gk rfl (Gk rfl (Gf gc 2 rfl rfl (Gl cx rfl rfl rfl rfl rfl (Gb (.bool false) (by simp[go_sem,c5]) rfl rfl rfl rfl rfl (Gk rfl (Gk rfl (Gf gc 2 rfl rfl (Gl cx rfl rfl rfl rfl rfl (Gk rfl (Gk rfl (Gf b 0 rfl rfl (Gf b 0 rfl rfl (Gl z rfl rfl rfl rfl rfl (Gn rfl rfl rfl rfl (Gb (.bool true) (by simp[go_sem,c6]) rfl rfl rfl rfl rfl (Gk rfl (aB)))))))))))))))))))))))))))))))))))))))))))))))))))) (fun _=>rfl) rfl ?_;intro y W4 g _;have p:=ae ht g;replace cx:=cx.ext g;clear g;have hf:Hid (Lk=3):=Lib.hid (by rw[hE.out];exact uV t.out);have hq:Hid (cachedE H.ma=3):=Lib.hid (by rw[ha.out (by rw[hf.out];decide),hf.out]);clear hl hg hu hr;go_wp2;go_ret;rw[hq.out];exact⟨rfl,p⟩
   refine aK 51 [_,_,_,_,_,_,_,_,_,_,_,_,_,_,_,_,_,_,_,_,_,_,_,_,_,_,_,_,_,_,_,_,_,_,_,_,_,_,_,_,_,_,_,_,_,_,_,_,_,_,.v (.bool false)] (Gf gc 0 rfl rfl (Gl cx rfl rfl rfl rfl rfl (Gb (.bool false) (by simp[go_sem,c1]) rfl rfl rfl rfl rfl (Gk rfl (Gf gc 0 rfl rfl (Gl cx rfl rfl rfl rfl rfl (Gk rfl (Gk rfl (Gf b 7 rfl rfl (Gf b 7 rfl rfl (Gl z rfl rfl rfl rfl rfl (Gn rfl rfl rfl rfl (Gb (.bool false) (by simp[go_sem,c2]) rfl rfl rfl rfl rfl (Gk rfl (Gk rfl (Gf gc 1 rfl rfl (Gl cx rfl rfl rfl rfl rfl (Gb (.bool false) (by simp[go_sem,c3]) rfl rfl rfl rfl rfl (Gk rfl (Gk rfl (Gf gc 1 rfl rfl (Gl cx rfl rfl rfl rfl rfl (Gk rfl (Gk rfl (Gf b 7 rfl rfl (Gf b 7 rfl rfl (Gl z (V:=.slice (some ⟨bf,of,none⟩) H.fi.length H.ci) (by simp[bS,hl]) rfl rfl rfl rfl (Gf gc 0 rfl rfl (Gl cx (V:=.int .i64 (F:Int)) (by simp[Bf,hu]) rfl rfl rfl rfl (Gr (.pointer (some ⟨bf,of+F*2,none⟩)) (fun ρ y W hb d=>(bG rfl (aC rfl d) (aC rfl d) hg underlying35 file_size)) rfl rfl (Gf bf (of+F*2+1) rfl rfl (Gc (.slice P.a P.l.length P.c) (fun W hb=>by simp[hr _ hb]) rfl rfl rfl rfl (Gn rfl rfl rfl rfl (Gb (.bool false) (by simp[go_sem,c4]) rfl rfl rfl rfl rfl (Gk rfl (Gk rfl (Gf gc 2 rfl rfl (Gl cx rfl rfl rfl rfl rfl (Gb (.bool false) (by simp[go_sem,c5]) rfl rfl rfl rfl rfl (Gk rfl (Gk rfl (Gf gc 2 rfl rfl (Gl cx rfl rfl rfl rfl rfl (Gk rfl (Gk rfl (Gf b 0 rfl rfl (Gf b 0 rfl rfl (Gl z rfl rfl rfl rfl rfl (Gn rfl rfl rfl rfl (Gb (.bool false) (by simp[go_sem,c6]) rfl rfl rfl rfl rfl (Gk rfl (aB)))))))))))))))))))))))))))))))))))))))))))))))))))) (fun _=>rfl) rfl ?_;intro y W4 g _;have p:=ae ht g;replace cx:=cx.ext g;clear g;obtain⟨K,kg⟩:∃K:Nat,c.k=K:=⟨c.k.toNat,by omega⟩;have hO:K<H.m.fs.length:=by omega
   have hR:=hbk.ext p;have h5:=h.below p;obtain⟨bg,og,kr,hF⟩:=jH eZ (by decide) h5.fr.rd K hO;have hy:Hid (Lk=if (aR H.ma K).r<1∨(aR H.ma K).f≠c.f∨(aR H.ma K).i≠c.i then 7 else match yJ H.ca k with
    | none=>0
    | some q=>if c.f<q.f∨q.f=c.f∧c.i≤q.i then 2 else 0):=Lib.hid (by
    rw[hE.out];unfold uA;rw[if_neg (by rw[hY.out,hG.out];show ¬(c.f<0∨(H.fi.length:Int)≤c.f∨c.i<0∨(P.l.length:Int)≤c.i∨c.k<0∨(H.m.fs.length:Int)≤c.k);omega),kg];rfl)
   have h3:H.m.fs[K]=aR H.ma K:=by have:=yQ (m:=H.ma) (f:=K) hO;have h2:H.m.fs[K]?=some (aR H.ma K):=this;rw[aI hO] at h2;exact aJ h2
   rw[h3] at hF;generalize aR H.ma K=x at *
   clear h3 hl hg hr hG hY z hV c2 c3 c4 c5 c6 c1 hE hu;go_upto_region 6 with (fail);refine aK 10 [_,_,_,_,_,_,_,_,_,.r 9 ((kD W4.heap.size 81 13))] (Gk rfl (Gk rfl (Gf b 0 rfl rfl (Gf b 0 rfl rfl (Gl hR (V:=.slice (some ⟨bg,og,none⟩) H.m.fs.length H.cf) (by simp[bS,kr]) rfl rfl rfl rfl (Gf gc 2 rfl rfl (Gl cx (V:=.int .i64 (K:Int)) (by simp[Bf,kg]) rfl rfl rfl rfl (Gr (.pointer (some ⟨bg,og+K*13,none⟩)) (fun ρ y W hb d=>(bG rfl (aC rfl d) (aC rfl d) hO underlying26 frame_size)) rfl rfl (Gr (.agg (vv x)) (fun ρ y W hb d=>(bF rfl (aC rfl d) (hF.below hb) underlying81 rfl frame_size)) rfl rfl (ag ?_ (aB))))))))))) (fun _=>rfl) rfl ?_
   ·intro ρ y W hw hn hb hd;refine jT (.pointer (some ⟨W.heap.size,0,none⟩)) (ah rfl) (by simp[execOp,go_sem]) ((Below.refl _ _).alloc (az _) (.cells #[.int .u8 0,.int .u8 0,.int .u8 0,.int .u8 0,.int .u8 0,.int .u8 0,.int .u8 0,.int .u8 0,.int .i64 0,.bool false,.bool false,.int .i64 0,.int .i64 0] 81)) ?_;exact⟨_,_,rfl,hb.size,aA.new _ _ _,rfl⟩
   intro y W5 hI hU;have kn:((kD W4.heap.size 81 13)).r (y 9) W5:=hU 9 (by decide);clear hU;obtain⟨gx,curx,h9,h8,ki,hQ⟩:=kn;rw[h9]
   go_wp2_with (refine gZ rfl _ _ _ rfl gx 0 (vv x) rfl rfl _ _ ki (by rw[hQ];exact az _) frame_size (nY x) ?_)
   intro w6 hZ ka;rw[iF _ _ (by rw[hQ];rfl)] at hZ;have hC:Below W4.heap.size W4 w6:=hI.grown ka hI.size (fun k hk=>by cases hk;exact h8);have hm:=ae p hC;have cx6:=cx.ext hC;have n:=hbk.ext hm;clear ki hI ka cx hR h5 hF hC h9;have kc:=hZ.cell;unfold vv at kc;have ke:=cx6.cell;unfold Bf at ke
   by_cases d1:x.r<1
   ·have hB:Hid (Lk=7):=Lib.hid (by rw[hy.out,if_pos (.inl d1)]);have hq:Hid (cachedE H.ma=7):=Lib.hid (by rw[ha.out (by rw[hB.out];decide),hB.out]);clear n;go_wp2;go_ret;rw[hq.out];exact⟨rfl,hm⟩
   by_cases d2:x.f=c.f
   rotate_left
   ·have hB:Hid (Lk=7):=Lib.hid (by rw[hy.out,if_pos (.inr (.inl d2))]);have hq:Hid (cachedE H.ma=7):=Lib.hid (by rw[ha.out (by rw[hB.out];decide),hB.out]);clear n;go_wp2;go_ret;rw[hq.out];exact⟨rfl,hm⟩
   by_cases d3:x.i=c.i
   rotate_left
   ·have hB:Hid (Lk=7):=Lib.hid (by rw[hy.out,if_pos (.inr (.inr d3))]);have hq:Hid (cachedE H.ma=7):=Lib.hid (by rw[ha.out (by rw[hB.out];decide),hB.out]);clear n;go_wp2;go_ret;rw[hq.out];exact⟨rfl,hm⟩
   rw[if_neg (by rintro (h | h | h);exact d1 h;exact h d2;exact h d3)] at hy;go_upto_region 9 with (fail);clear kc ke hZ d1 d2 d3;obtain⟨k1,q,hh,o,hp,hx,h7⟩:∃(k1:Nat) (q:Cc),(0<k→IntKind.i64.wrap ((k:Int)-1)=(k1:Int))∧(0<k→k1<H.ca.length)∧(0<k→∀W,Below w6.heap.size w6 W→W.cell? ⟨bc,oc+k1*3,none⟩=some (.int .i64 q.f))∧(0<k→∀W,Below w6.heap.size w6 W→W.cell? ⟨bc,oc+k1*3+1,none⟩=some (.int .i64 q.i))∧(0<k→yJ H.ca k=some q):=by
    by_cases h0:0<k
    ·have hD:k-1<H.ca.length:=by omega
     have hH:∀W,Below w6.heap.size w6 W→W.cell? ⟨bc,oc+(k-1)*3,none⟩=some (.int .i64 H.ca[k-1].f)∧W.cell? ⟨bc,oc+(k-1)*3+1,none⟩=some (.int .i64 H.ca[k-1].i):=fun W hb=>by obtain⟨bc',oc',c',hT,kh,e1,e2,_⟩:=VI (h.below (ae hm hb)).ca.rd (k-1) hD;rw[aI hD] at kh;cases kh;rw[hv] at hT;cases hT;exact⟨e1,e2⟩
     refine⟨k-1,H.ca[k-1],fun _ => ?_,fun _=>hD,fun _ W hb=>(hH W hb).1,fun _ W hb=>(hH W hb).2,fun _ => ?_⟩
     ·rw[show (k:Int)-1=((k-1:Nat):Int) by omega];exact bO _ (by omega)
     ·rw[h6.out,if_neg (by omega),aI hD]
    ·exact⟨0,zCc,fun h'=>absurd h' h0,fun h'=>absurd h' h0,fun h'=>absurd h' h0,fun h'=>absurd h' h0,fun h'=>absurd h' h0⟩
   by_cases e1:k=0
   ·have e1i:¬(0:Int)<(k:Int):=by omega
    have hK:Hid (Lk=0):=Lib.hid (by rw[hy.out,h6.out,if_pos e1]);refine aK 44 [_,_,_,_,_,_,_,_,_,_,_,_,_,_,_,_,_,_,_,_,_,_,_,_,_,_,_,_,_,_,_,_,_,_,_,_,_,_,_,_,_,_,_,.v (.bool false)] (Gk rfl (Gb (.bool false) (by simp[go_sem,e1]) rfl rfl rfl rfl rfl (Gk rfl (Gk rfl (Gk rfl (Gk rfl (Gk rfl (Gk rfl (Gk rfl (Gk rfl (Gk rfl (Gk rfl (Gk rfl (Gk rfl (Gk rfl (Gk rfl (Gk rfl (Gk rfl (Gk rfl (Gk rfl (Gk rfl (Gk rfl (Gk rfl (Gk rfl (Gk rfl (Gk rfl (Gk rfl (Gk rfl (Gk rfl (Gk rfl (Gk rfl (Gk rfl (Gk rfl (Gk rfl (Gk rfl (Gk rfl (Gk rfl (Gk rfl (Gk rfl (Gk rfl (Gk rfl (Gk rfl (Gk rfl (Gk rfl (aB))))))))))))))))))))))))))))))))))))))))))))) (fun _=>rfl) rfl ?_;intro y W7 u _;have hs:=ae hm u;clear u;have hA:=Lib.hid (hW.out hK.out);clear hp hx hh o cx6 n;go_wp2;go_roundw
    case rel=>exact⟨k+1,by omega,by go_num,hs,hA⟩
    case measure=>simp[intOf];omega
   have e1i:0<k:=by omega
   replace hh:=hh (by omega);replace o:=o (by omega);replace hp:=hp (by omega);replace hx:=hx (by omega);have hM:=Lib.hid (h7 (by omega));clear h7
   by_cases e2:c.f<q.f
   ·have t:Hid (c.f<q.f∨q.f=c.f∧c.i≤q.i):=Lib.hid (.inl e2);refine aK 44 [_,_,_,_,_,_,_,_,_,_,_,_,_,_,_,_,_,_,_,_,_,_,_,_,_,_,_,_,_,_,_,_,_,_,_,_,_,_,_,_,_,_,_,.v (.bool true)] (Gk rfl (Gb (.bool true) (by simp[go_sem,e1i]) rfl rfl rfl rfl rfl (Gk rfl (Gk rfl (Gk rfl (Gf b 9 rfl rfl (Gl n (V:=.slice (some ⟨bc,oc,none⟩) H.ca.length H.cc) (by simp[bS,hv]) rfl rfl rfl rfl (Gk rfl (Gb (.int .i64 (k1:Int)) (by simp[go_sem,hh]) rfl rfl rfl rfl rfl (Gr (.pointer (some ⟨bc,oc+k1*3,none⟩)) (fun ρ y W hb d=>(bG rfl (aC rfl d) (aC rfl d) o underlying38 cached_size)) rfl rfl (Gf bc (oc+k1*3) rfl rfl (Gc (.int .i64 q.f) (fun W hb=>by simp[hp _ hb]) rfl rfl rfl rfl (Gf gc 0 rfl rfl (Gl cx6 rfl rfl rfl rfl rfl (Gb (.bool true) (by simp[go_sem,e2]) rfl rfl rfl rfl rfl (Gk rfl (Gk rfl (Gk rfl (Gk rfl (Gk rfl (Gk rfl (Gk rfl (Gk rfl (Gk rfl (Gk rfl (Gk rfl (Gk rfl (Gk rfl (Gk rfl (Gk rfl (Gk rfl (Gk rfl (Gk rfl (Gk rfl (Gk rfl (Gk rfl (Gk rfl (Gk rfl (Gk rfl (Gk rfl (Gk rfl (Gk rfl (Gk rfl (Gk rfl (aB))))))))))))))))))))))))))))))))))))))))))))) (fun _=>rfl) rfl ?_;intro y W7 u _;have hs:=ae hm u;clear u;have hJ:Hid (Lk=2):=Lib.hid (by rw[hy.out,hM.out];simp only;rw[if_pos t.out]);have hq:Hid (cachedE H.ma=2):=Lib.hid (by rw[ha.out (by rw[hJ.out];decide),hJ.out]);clear hp hx hh o cx6 n;go_wp2;go_ret;rw[hq.out];exact⟨rfl,hs⟩
   by_cases e3:q.f=c.f
   ·by_cases e4:c.i≤q.i
    ·have t:Hid (c.f<q.f∨q.f=c.f∧c.i≤q.i):=Lib.hid (.inr ⟨e3,e4⟩);refine aK 44 [_,_,_,_,_,_,_,_,_,_,_,_,_,_,_,_,_,_,_,_,_,_,_,_,_,_,_,_,_,_,_,_,_,_,_,_,_,_,_,_,_,_,_,.v (.bool true)] (Gk rfl (Gb (.bool true) (by simp[go_sem,e1i]) rfl rfl rfl rfl rfl (Gk rfl (Gk rfl (Gk rfl (Gf b 9 rfl rfl (Gl n (V:=.slice (some ⟨bc,oc,none⟩) H.ca.length H.cc) (by simp[bS,hv]) rfl rfl rfl rfl (Gk rfl (Gb (.int .i64 (k1:Int)) (by simp[go_sem,hh]) rfl rfl rfl rfl rfl (Gr (.pointer (some ⟨bc,oc+k1*3,none⟩)) (fun ρ y W hb d=>(bG rfl (aC rfl d) (aC rfl d) o underlying38 cached_size)) rfl rfl (Gf bc (oc+k1*3) rfl rfl (Gc (.int .i64 q.f) (fun W hb=>by simp[hp _ hb]) rfl rfl rfl rfl (Gf gc 0 rfl rfl (Gl cx6 rfl rfl rfl rfl rfl (Gb (.bool false) (by simp[go_sem,e2]) rfl rfl rfl rfl rfl (Gk rfl (Gk rfl (Gk rfl (Gf b 9 rfl rfl (Gl n (V:=.slice (some ⟨bc,oc,none⟩) H.ca.length H.cc) (by simp[bS,hv]) rfl rfl rfl rfl (Gk rfl (Gb (.int .i64 (k1:Int)) (by simp[go_sem,hh]) rfl rfl rfl rfl rfl (Gr (.pointer (some ⟨bc,oc+k1*3,none⟩)) (fun ρ y W hb d=>(bG rfl (aC rfl d) (aC rfl d) o underlying38 cached_size)) rfl rfl (Gf bc (oc+k1*3) rfl rfl (Gc (.int .i64 q.f) (fun W hb=>by simp[hp _ hb]) rfl rfl rfl rfl (Gf gc 0 rfl rfl (Gl cx6 rfl rfl rfl rfl rfl (Gb (.bool true) (by simp[go_sem,e3]) rfl rfl rfl rfl rfl (Gk rfl (Gk rfl (Gk rfl (Gf b 9 rfl rfl (Gl n (V:=.slice (some ⟨bc,oc,none⟩) H.ca.length H.cc) (by simp[bS,hv]) rfl rfl rfl rfl (Gk rfl (Gb (.int .i64 (k1:Int)) (by simp[go_sem,hh]) rfl rfl rfl rfl rfl (Gr (.pointer (some ⟨bc,oc+k1*3,none⟩)) (fun ρ y W hb d=>(bG rfl (aC rfl d) (aC rfl d) o underlying38 cached_size)) rfl rfl (Gf bc (oc+k1*3+1) rfl rfl (Gc (.int .i64 q.i) (fun W hb=>by simp[hx _ hb]) rfl rfl rfl rfl (Gf gc 1 rfl rfl (Gl cx6 rfl rfl rfl rfl rfl (Gb (.bool true) (by simp[go_sem,e4]) rfl rfl rfl rfl rfl (Gk rfl (Gk rfl (Gk rfl (aB))))))))))))))))))))))))))))))))))))))))))))) (fun _=>rfl) rfl ?_;intro y W7 u _;have hs:=ae hm u;clear u;have hJ:Hid (Lk=2):=Lib.hid (by rw[hy.out,hM.out];simp only;rw[if_pos t.out]);have hq:Hid (cachedE H.ma=2):=Lib.hid (by rw[ha.out (by rw[hJ.out];decide),hJ.out]);clear hp hx hh o cx6 n;go_wp2;go_ret;rw[hq.out];exact⟨rfl,hs⟩
    have hK:Hid (Lk=0):=Lib.hid (by rw[hy.out,hM.out];simp only;rw[if_neg (by omega)]);refine aK 44 [_,_,_,_,_,_,_,_,_,_,_,_,_,_,_,_,_,_,_,_,_,_,_,_,_,_,_,_,_,_,_,_,_,_,_,_,_,_,_,_,_,_,_,.v (.bool false)] (Gk rfl (Gb (.bool true) (by simp[go_sem,e1i]) rfl rfl rfl rfl rfl (Gk rfl (Gk rfl (Gk rfl (Gf b 9 rfl rfl (Gl n (V:=.slice (some ⟨bc,oc,none⟩) H.ca.length H.cc) (by simp[bS,hv]) rfl rfl rfl rfl (Gk rfl (Gb (.int .i64 (k1:Int)) (by simp[go_sem,hh]) rfl rfl rfl rfl rfl (Gr (.pointer (some ⟨bc,oc+k1*3,none⟩)) (fun ρ y W hb d=>(bG rfl (aC rfl d) (aC rfl d) o underlying38 cached_size)) rfl rfl (Gf bc (oc+k1*3) rfl rfl (Gc (.int .i64 q.f) (fun W hb=>by simp[hp _ hb]) rfl rfl rfl rfl (Gf gc 0 rfl rfl (Gl cx6 rfl rfl rfl rfl rfl (Gb (.bool false) (by simp[go_sem,e2]) rfl rfl rfl rfl rfl (Gk rfl (Gk rfl (Gk rfl (Gf b 9 rfl rfl (Gl n (V:=.slice (some ⟨bc,oc,none⟩) H.ca.length H.cc) (by simp[bS,hv]) rfl rfl rfl rfl (Gk rfl (Gb (.int .i64 (k1:Int)) (by simp[go_sem,hh]) rfl rfl rfl rfl rfl (Gr (.pointer (some ⟨bc,oc+k1*3,none⟩)) (fun ρ y W hb d=>(bG rfl (aC rfl d) (aC rfl d) o underlying38 cached_size)) rfl rfl (Gf bc (oc+k1*3) rfl rfl (Gc (.int .i64 q.f) (fun W hb=>by simp[hp _ hb]) rfl rfl rfl rfl (Gf gc 0 rfl rfl (Gl cx6 rfl rfl rfl rfl rfl (Gb (.bool true) (by simp[go_sem,e3]) rfl rfl rfl rfl rfl (Gk rfl (Gk rfl (Gk rfl (Gf b 9 rfl rfl (Gl n (V:=.slice (some ⟨bc,oc,none⟩) H.ca.length H.cc) (by simp[bS,hv]) rfl rfl rfl rfl (Gk rfl (Gb (.int .i64 (k1:Int)) (by simp[go_sem,hh]) rfl rfl rfl rfl rfl (Gr (.pointer (some ⟨bc,oc+k1*3,none⟩)) (fun ρ y W hb d=>(bG rfl (aC rfl d) (aC rfl d) o underlying38 cached_size)) rfl rfl (Gf bc (oc+k1*3+1) rfl rfl (Gc (.int .i64 q.i) (fun W hb=>by simp[hx _ hb]) rfl rfl rfl rfl (Gf gc 1 rfl rfl (Gl cx6 rfl rfl rfl rfl rfl (Gb (.bool false) (by simp[go_sem,e4]) rfl rfl rfl rfl rfl (Gk rfl (Gk rfl (Gk rfl (aB))))))))))))))))))))))))))))))))))))))))))))) (fun _=>rfl) rfl ?_;intro y W7 u _;have hs:=ae hm u;clear u;have hA:=Lib.hid (hW.out hK.out);clear hp hx hh o cx6 n;go_wp2;go_roundw
    case rel=>exact⟨k+1,by omega,by go_num,hs,hA⟩
    case measure=>simp[intOf];omega
   have hK:Hid (Lk=0):=Lib.hid (by rw[hy.out,hM.out];simp only;rw[if_neg (by omega)]);refine aK 44 [_,_,_,_,_,_,_,_,_,_,_,_,_,_,_,_,_,_,_,_,_,_,_,_,_,_,_,_,_,_,_,_,_,_,_,_,_,_,_,_,_,_,_,.v (.bool false)] (Gk rfl (Gb (.bool true) (by simp[go_sem,e1i]) rfl rfl rfl rfl rfl (Gk rfl (Gk rfl (Gk rfl (Gf b 9 rfl rfl (Gl n (V:=.slice (some ⟨bc,oc,none⟩) H.ca.length H.cc) (by simp[bS,hv]) rfl rfl rfl rfl (Gk rfl (Gb (.int .i64 (k1:Int)) (by simp[go_sem,hh]) rfl rfl rfl rfl rfl (Gr (.pointer (some ⟨bc,oc+k1*3,none⟩)) (fun ρ y W hb d=>(bG rfl (aC rfl d) (aC rfl d) o underlying38 cached_size)) rfl rfl (Gf bc (oc+k1*3) rfl rfl (Gc (.int .i64 q.f) (fun W hb=>by simp[hp _ hb]) rfl rfl rfl rfl (Gf gc 0 rfl rfl (Gl cx6 rfl rfl rfl rfl rfl (Gb (.bool false) (by simp[go_sem,e2]) rfl rfl rfl rfl rfl (Gk rfl (Gk rfl (Gk rfl (Gf b 9 rfl rfl (Gl n (V:=.slice (some ⟨bc,oc,none⟩) H.ca.length H.cc) (by simp[bS,hv]) rfl rfl rfl rfl (Gk rfl (Gb (.int .i64 (k1:Int)) (by simp[go_sem,hh]) rfl rfl rfl rfl rfl (Gr (.pointer (some ⟨bc,oc+k1*3,none⟩)) (fun ρ y W hb d=>(bG rfl (aC rfl d) (aC rfl d) o underlying38 cached_size)) rfl rfl (Gf bc (oc+k1*3) rfl rfl (Gc (.int .i64 q.f) (fun W hb=>by simp[hp _ hb]) rfl rfl rfl rfl (Gf gc 0 rfl rfl (Gl cx6 rfl rfl rfl rfl rfl (Gb (.bool false) (by simp[go_sem,e3]) rfl rfl rfl rfl rfl (Gk rfl (Gk rfl (Gk rfl (Gk rfl (Gk rfl (Gk rfl (Gk rfl (Gk rfl (Gk rfl (Gk rfl (Gk rfl (Gk rfl (Gk rfl (Gk rfl (Gk rfl (Gk rfl (aB))))))))))))))))))))))))))))))))))))))))))))) (fun _=>rfl) rfl ?_;intro y W7 u _;have hs:=ae hm u;clear u;have hA:=Lib.hid (hW.out hK.out);clear hp hx hh o cx6 n;go_wp2;go_roundw
   case rel=>exact⟨k+1,by omega,by go_num,hs,hA⟩
   case measure=>simp[intOf];omega
  have kq:¬(k:Int)<(H.ca.length:Int):=by omega
  have hq:Hid (cachedE H.ma=0):=Lib.hid (by rw[km.out,tX fun i hi=>hz.out i hi (by rw[kl.out] at hi;omega)]);clear hz;go_wp2;go_ret;rw[hq.out];exact⟨rfl,hN⟩
theorem QA {s:Sp} {n:Int} (h:kH s.ar n<0):bW m s n=5:=by unfold bW;exact if_pos h
theorem Na (H:MH) (P:PS) (n:Int) (b bs os:Nat) (w:World) (hbk:aA w b (bS H) 41) (h:BH w H) (hrd:dI w (some ⟨bs,os,none⟩) (uj P)) (hg:P.good w) (har:(bJ P.ar).1=0) (htb:dh P.tb=0) (hn:0≤n∧n<64) :
  Calls Tryz.prog 68 #[.pointer (some ⟨b,0,none⟩),.pointer (some ⟨bs,os,none⟩),.int .i64 n] w fun r w'=>r = .returned (.int .i64 (bW H.ma P.sp n))∧Below w.heap.size w w':=by
 have hV:∀W,Below w.heap.size w W→W.cell? ⟨bs,os+1,none⟩=some (.slice P.aa P.ar.length P.ac):=fun W hb=>by obtain⟨b',o',e,hc⟩:=(hrd.below hb) 1 _ rfl;cases e;exact hc
 go_enter func68,ntmps68;have ki:=hV w (Below.refl _ _);have hA:=hg.ars
 go_wp2_with fail
 refine (Ps P.ar n P.aa P.ac _ hA.rd (by have:=hA.le;have:=hA.mx;unfold maxLen at this;omega)).mono ?_;rintro r w1 ⟨rfl,hx⟩;have hT:=hbk.ext hx;have h1:=h.below hx;have hX:=hg.below hx;have hR:=hrd.below hx;clear ki hA
 by_cases hf:kH P.ar n<0
 ·have hq:Hid (bW H.ma P.sp n=5):=Lib.hid (QA hf);clear hT;go_wp2;go_ret;rw[hq.out];exact⟨rfl,hx⟩
 have hE:Hid (bW H.ma P.sp n=(let a:=P.ar.getD (kH P.ar n).toNat zAr
  let e:=dK P.tb n
  if e.k=2 then (if (H.sl.length:Int)≤e.n∨a.sh=true then 7 else 0)
  else if (H.m.fs.length:Int)≤e.n then 3 else
  let f:=qG H.ma e.n;let of:=decide (0≤a.fi)&&decide (f.f=a.fi)&&decide (f.i=a.ba+n-a.fr)
  if 0≤f.f∧of=false∨a.sh=true∧of=false∨a.sh=false∧of=true∧e.w=true∨e.w=true∧a.wr=false then 7
  else if f.f<0∧e.w=true∧1<f.r then 7 else 0)):=Lib.hid (by unfold bW;exact if_neg hf)
 obtain⟨k,hk,hO,_⟩:=Ot (q:=oI n) (l:=P.ar) (by show 0≤kH P.ar n;omega);have hW : kH P.ar n=k:=hk;rw[hW,bX,aV,aI hO] at hE;simp only[oL] at hE;have ku:¬(k:Int)<0:=by omega
 rw[hW];obtain⟨ba,oa,kl,hU⟩:=jH sV (by decide) hX.ars.rd k hO;have kg:=(vg har).2 _ (dM hO);have hM:=(bI kg).1;have kt:=(cO _).1 (pY htb n);generalize P.ar[k]=a at *
 generalize hge:dK P.tb n=e at *
 have ka:=Lib.hid hge;clear hk hW hf kg hge;go_upto_region 4 with (fail);refine nA 15 [_,_,_,_,_,_,_,_,_,_,_,.v (.agg (jq e)),.r 12 ((kD w1.heap.size 89 3)),.v (.pointer (some ⟨ba,oa+k*7,none⟩)),.y 14 ((SE 12 w1.heap.size 89 (ve (.agg (jq e)))))] (fun W=>Below w1.heap.size w1 W) gP (Below.refl _ _) (Yk gP rfl (Yk gP rfl (Yf gP bs (os+1) rfl rfl (Yc gP (.slice (some ⟨ba,oa,none⟩) P.ar.length P.ac) (fun W hb=>by simp[hV _ (ae hx hb),kl]) rfl rfl rfl rfl (Yk gP rfl (Yr gP (.pointer (some ⟨ba,oa+k*7,none⟩)) (fun ρ y W hb hB=>(bG rfl (aC rfl hB) (aC rfl hB) hO underlying50 area_size)) rfl rfl (Yk gP rfl (Yk gP rfl (Yf gP bs (os+2) rfl rfl (Yr gP (.agg (nG P.ts)) (fun ρ y W hb hB=>(bF rfl (aC rfl hB) (rQ (hR.below hb) 2 8) underlying53 tab_agg tab_size)) rfl rfl (Yk gP rfl (ag ?_ (ag ?_ (Yk gP rfl (ag ?_ (aB)))))))))))))))) (fun _=>rfl) rfl ?_
 ·intro ρ y W hw hn hb hd;refine mh gP hb (ve (.agg (jq e))) (fun _ _ h=>h) ?_;have kr:=hw 30 9 rfl;have h9:y 9 = .agg (nG P.ts):=hd 9 rfl;have kq:=hw 31 10 rfl;have ko:y 10 = .int .i64 n:=hd 10 rfl;have EF:∀f,ρ (.func f) = .func (.func f) #[] #[]:=fun f=>hn (.func f) trivial;refine aL _ _ (ah rfl) (aO rfl (EF _) func69 (by kernel_rfl) (by kernel_rfl) (by simp only[bH,bA,bB,kr,h9,kq,ko,EF];rfl)) ?_;refine (AL P.tb (nG P.ts) n W (hX.below hb).tb).mono ?_;rintro r w2 ⟨rfl,kj⟩;rw[ka.out];exact⟨_,rfl,kj,rfl⟩
 ·intro ρ y W hw hn hb hd;refine mh gP hb ((kD w1.heap.size 89 3)) (fun _ _ h=>h) ?_;refine jT (.pointer (some ⟨W.heap.size,0,none⟩)) (ah rfl) (by simp[execOp,go_sem,dm]) ((Below.refl _ _).alloc (az _) (.cells #[.int .i64 0,.int .i64 0,.bool false] 89)) ?_;exact⟨_,_,rfl,hb.size,aA.new _ _ _,rfl⟩
 ·intro ρ y W hw hn hb hd;have E9:=hw 9 12 rfl;have km:=hd 12 rfl;have kp:=hw 32 11 rfl;have kn:y 11 = .agg (jq e):=hd 11 rfl;obtain⟨g3,cur3,e9,kb,ke,h7⟩:=km;refine sD (ah rfl) _ _ _ rfl g3 0 (.agg (jq e)) (jq e).toList (E9.trans e9) (kp.trans kn) rfl cur3 _ ke (by rw[h7];exact az _) entry_size (bV (by simp[jq,Value.oneCell'])) ?_;intro w1 hG h8;rw[iF cur3 _ (by rw[h7];rfl)] at hG;refine⟨hb.grown h8 hb.size (fun k hk=>by cases hk;exact kb),⟨g3,_,e9,kb,hG,rfl⟩,?_⟩;intro k hk kh
  match k,hk,kh with
  | 0,_,_=>exact fun h=>h
  | 1,_,_=>exact fun h=>h
  | 2,_,_=>exact fun h=>h
  | 3,_,_=>exact fun h=>h
  | 4,_,_=>exact fun h=>h
  | 5,_,_=>exact fun h=>h
  | 6,_,_=>exact fun h=>h
  | 7,_,_=>exact fun h=>h
  | 8,_,_=>exact fun h=>h
  | 9,_,_=>exact fun h=>h
  | 10,_,_=>exact fun h=>h
  | 11,_,_=>exact fun h=>h
  | 12,_,_=>exact fun q=>pW q hG (fun _=>rfl) ⟨_,ke⟩ h8
  | 13,_,_=>exact fun h=>h
  | 14,_,h=>exact absurd rfl h
  | n+15,h,_=>exact absurd h (by omega)
 intro y w4 hF hN;replace hF:Below w1.heap.size w1 w4:=hF;have h0:((kD w1.heap.size 89 3)).r (y 12) w4:=hN 12 (by decide);have hZ:=hN 14 (by decide);clear hN;simp only[cz,dm,bA,bB];obtain⟨ge,cce,hS,ks,kf,kc⟩:=hZ;have hY : cce=jq e:=by simpa[ve] using kc
 subst hY;rw[hS];have hz:=hF;have hm:=ae hx hz;have ex:=kf;have hs:=hbk.ext hm;have h4:=h.below hm;have hL:=hU.below hz;clear hF hz hS kf hU hR hT h1 hx hV hX h0;have hH:∀j u,(mP a)[j]?=some u→∀W,Below w4.heap.size w4 W→W.cell? ⟨ba,oa+k*7+j,none⟩=some u:=fun j u hj W hb=>by obtain⟨b',o',e',hc⟩:=(hL.below hb) j u hj;cases e';exact hc
 have hl:=hH 3 _ rfl;have hi:=hH 4 _ rfl;have t:=hH 5 _ rfl;have hC:=hH 6 _ rfl;have hD:∀W,Below w4.heap.size w4 W→W.cell? ⟨ba,oa+k*7,none⟩=some (.int .i64 a.fr):=hH 0 _ rfl;have s:=ex.cell;unfold jq at s;clear hH hL
 by_cases hk2:e.k=2
 ·rw[if_pos hk2] at hE;rw[hk2] at s;go_upto_region 6 with (fail);clear s hk2
  by_cases c1:(H.sl.length:Int)≤e.n
  ·have hq:Hid (bW H.ma P.sp n=7):=Lib.hid (by rw[hE.out,if_pos (.inl c1)]);refine aK 14 [_,_,_,_,_,_,_,_,_,_,_,_,_,.v (.bool true)] (Gf ge 1 rfl rfl (Gl ex rfl rfl rfl rfl rfl (Gk rfl (Gk rfl (Gf b 2 rfl rfl (Gl hs rfl rfl rfl rfl rfl (Gn rfl rfl rfl rfl (Gb (.bool true) (by simp[go_sem,c1]) rfl rfl rfl rfl rfl (Gk rfl (Gk rfl (Gk rfl (Gk rfl (Gk rfl (Gk rfl (aB))))))))))))))) (fun _=>rfl) rfl ?_;intro y W5 o _;have p:=ae hm o;clear o;go_wp2;go_ret;rw[hq.out];exact⟨rfl,p⟩
  cases c2:a.sh with
  | true=>
   have hq:Hid (bW H.ma P.sp n=7):=Lib.hid (by rw[hE.out,if_pos (.inr c2)]);refine aK 14 [_,_,_,_,_,_,_,_,_,_,_,_,_,.v (.bool true)] (Gf ge 1 rfl rfl (Gl ex rfl rfl rfl rfl rfl (Gk rfl (Gk rfl (Gf b 2 rfl rfl (Gl hs rfl rfl rfl rfl rfl (Gn rfl rfl rfl rfl (Gb (.bool false) (by simp[go_sem,c1]) rfl rfl rfl rfl rfl (Gk rfl (Gk rfl (Gk rfl (Gf ba (oa+k*7+4) rfl rfl (Gc (.bool true) (fun W hb=>by simp[hi _ hb,c2]) rfl rfl rfl rfl (Gk rfl (aB))))))))))))))) (fun _=>rfl) rfl ?_;intro y W5 o _;have p:=ae hm o;clear o;go_wp2;go_ret;rw[hq.out];exact⟨rfl,p⟩
  | false=>
   have hq:Hid (bW H.ma P.sp n=0):=Lib.hid (by rw[hE.out,if_neg (by rw[c2];simp;omega)]);refine aK 14 [_,_,_,_,_,_,_,_,_,_,_,_,_,.v (.bool false)] (Gf ge 1 rfl rfl (Gl ex rfl rfl rfl rfl rfl (Gk rfl (Gk rfl (Gf b 2 rfl rfl (Gl hs rfl rfl rfl rfl rfl (Gn rfl rfl rfl rfl (Gb (.bool false) (by simp[go_sem,c1]) rfl rfl rfl rfl rfl (Gk rfl (Gk rfl (Gk rfl (Gf ba (oa+k*7+4) rfl rfl (Gc (.bool false) (fun W hb=>by simp[hi _ hb,c2]) rfl rfl rfl rfl (Gk rfl (aB))))))))))))))) (fun _=>rfl) rfl ?_;intro y W5 o _;have p:=ae hm o;clear o;go_wp2;go_ret;rw[hq.out];exact⟨rfl,p⟩
 rw[if_neg hk2] at hE;obtain⟨K,hK⟩:∃K:Nat,e.n=K:=⟨e.n.toNat,by omega⟩;rw[hK] at hE;go_upto_region 9 with (fail);clear s
 by_cases c3:(H.m.fs.length:Int)≤(K:Int)
 ·have hq:Hid (bW H.ma P.sp n=3):=Lib.hid (by rw[hE.out,if_pos c3]);have c3e:(H.m.fs.length:Int)≤e.n:=by omega
  refine aK 9 [_,_,_,_,_,_,_,_,_] (Gf ge 1 rfl rfl (Gl ex rfl rfl rfl rfl rfl (Gk rfl (Gk rfl (Gf b 0 rfl rfl (Gf b 0 rfl rfl (Gl hs rfl rfl rfl rfl rfl (Gn rfl rfl rfl rfl (Gb (.bool true) (by simp[go_sem,c3e]) rfl rfl rfl rfl rfl (aB)))))))))) (fun _=>rfl) rfl ?_;intro y W5 o _;have p:=ae hm o;clear o hD hl hi t hC c3 c3e;go_wp2;go_ret;rw[hq.out];exact⟨rfl,p⟩
 rw[if_neg c3] at hE;have c3e:¬(H.m.fs.length:Int)≤e.n:=by omega
 refine aK 9 [_,_,_,_,_,_,_,_,_] (Gf ge 1 rfl rfl (Gl ex rfl rfl rfl rfl rfl (Gk rfl (Gk rfl (Gf b 0 rfl rfl (Gf b 0 rfl rfl (Gl hs rfl rfl rfl rfl rfl (Gn rfl rfl rfl rfl (Gb (.bool false) (by simp[go_sem,c3e]) rfl rfl rfl rfl rfl (aB)))))))))) (fun _=>rfl) rfl ?_;intro y W5 o _;have p:=ae hm o;have hQ:K<H.m.fs.length:=by omega
 replace ex:=ex.ext o;have hp:=hbk.ext p;have h5:=h.below p;have sh:∀ {u:Value} {z:Addr},(∀W,Below w4.heap.size w4 W→W.cell? z=some u)→∀W,Below W5.heap.size W5 W→W.cell? z=some u:=fun hh W hb=>hh W (ae o hb);replace hD:=sh hD;replace hl:=sh hl;replace hi:=sh hi;replace t:=sh t;replace hC:=sh hC;obtain⟨bg,og,kk,hr⟩:=jH eZ (by decide) h5.fr.rd K hQ;have h3:H.m.fs[K]=aR H.ma K:=by have:=yQ (m:=H.ma) (f:=K) hQ;have h2:H.m.fs[K]?=some (aR H.ma K):=this;rw[aI hQ] at h2;exact aJ h2
 rw[h3] at hr;have c:Hid (bW H.ma P.sp n=(let of:=decide (0≤a.fi)&&decide ((aR H.ma K).f=a.fi)&&decide ((aR H.ma K).i=a.ba+n-a.fr)
  if 0≤(aR H.ma K).f∧of=false∨a.sh=true∧of=false∨a.sh=false∧of=true∧e.w=true∨e.w=true∧a.wr=false then 7
  else if (aR H.ma K).f<0∧e.w=true∧1<(aR H.ma K).r then 7 else 0)):=Lib.hid (by rw[hE.out];rfl)
 generalize aR H.ma K=x at *
 clear hE h3 o hs h4 hm c3 sh;go_upto_region 11 with (fail);refine aK 9 [_,_,_,_,_,_,_,_,.v (.pointer (some ⟨bg,og+K*13,none⟩))] (Gk rfl (Gk rfl (Gf b 0 rfl rfl (Gf b 0 rfl rfl (Gl hp (V:=.slice (some ⟨bg,og,none⟩) H.m.fs.length H.cf) (by simp[bS,kk]) rfl rfl rfl rfl (Gf ge 1 rfl rfl (Gl ex (V:=.int .i64 (K:Int)) (by simp[jq,hK]) rfl rfl rfl rfl (Gr (.pointer (some ⟨bg,og+K*13,none⟩)) (fun ρ y W hb hB=>(bG rfl (aC rfl hB) (aC rfl hB) hQ underlying26 frame_size)) rfl rfl (Gk rfl (aB)))))))))) (fun _=>rfl) rfl ?_;intro y W7 hv _;have hJ:=ae p hv;have ex7:=ex.ext hv;have kd:=hbk.ext hJ;have sh:∀ {u:Value} {z:Addr},(∀W,Below W5.heap.size W5 W→W.cell? z=some u)→∀W,Below W7.heap.size W7 W→W.cell? z=some u:=fun hh W hb=>hh W (ae hv hb);replace hD:=sh hD;replace hl:=sh hl;replace hi:=sh hi;replace t:=sh t;replace hC:=sh hC;have hI:=hr.below hv;clear ex hp hv sh hr p h5;have hG:IntKind.i64.wrap (a.ba+n)=a.ba+n:=bO _ (by obtain⟨⟨z1,z2⟩,⟨z3,z4⟩,z5,z6⟩:=hM;omega);have h6:IntKind.i64.wrap (a.ba+n-a.fr)=a.ba+n-a.fr:=bO _ (by obtain⟨⟨z1,z2⟩,⟨z3,z4⟩,z5,z6⟩:=hM;omega);go_upto_region 12 with (fail);refine aK 12 [_,_,_,_,_,_,_,_,_,_,_,.v (.int .i64 (a.ba+n-a.fr))] (Gk rfl (Gk rfl (Gf ba (oa+k*7+6) rfl rfl (Gc (.int .i64 a.ba) (fun W hb=>by simp[hC _ hb]) rfl rfl rfl rfl (Gk rfl (Gb (.int .i64 (a.ba+n)) (by simp[go_sem,hG]) rfl rfl rfl rfl rfl (Gk rfl (Gk rfl (Gf ba (oa+k*7) rfl rfl (Gc (.int .i64 a.fr) (fun W hb=>by simp[hD _ hb]) rfl rfl rfl rfl (Gb (.int .i64 (a.ba+n-a.fr)) (by simp[go_sem,h6]) rfl rfl rfl rfl rfl (Gk rfl (aB))))))))))))) (fun _=>rfl) rfl ?_;intro y W5 o _;have p:=ae hJ o;have ex:=ex7.ext o;have hp:=hbk.ext p;have sh:∀ {u:Value} {z:Addr},(∀W,Below W7.heap.size W7 W→W.cell? z=some u)→∀W,Below W5.heap.size W5 W→W.cell? z=some u:=fun hh W hb=>hh W (ae o hb);replace hl:=sh hl;replace hi:=sh hi;replace t:=sh t;have hr:=hI.below o;clear ex7 kd o sh hI hJ hG h6 hD hC;have hP:∀j u,(qz x)[j]?=some u→∀W,Below W5.heap.size W5 W→W.cell? ⟨bg,og+K*13+j,none⟩=some u:=fun j u hj W hb=>by obtain⟨b',o',e',hc⟩:=(hr.below hb) j u hj;cases e';exact hc
 have hy:=hP 8 _ rfl;have ha:=hP 11 _ rfl;have ht:=hP 12 _ rfl;clear hP hr;go_upto_region 13 with (fail)
 by_cases g1:0≤a.fi
 ·by_cases g2:x.f=a.fi
  ·by_cases g3:x.i=a.ba+n-a.fr
   ·skip;refine aK 25 [_,_,_,_,_,_,_,_,_,_,_,_,_,_,_,_,_,_,_,_,_,_,_,_,.v (.bool true)] (Gk rfl (Gk rfl (Gf ba (oa+k*7+5) rfl rfl (Gc (.int .i64 a.fi) (fun W hb=>by simp[t _ hb]) rfl rfl rfl rfl (Gb (.bool true) (by simp[go_sem,g1]) rfl rfl rfl rfl rfl (Gk rfl (Gk rfl (Gk rfl (Gf bg (og+K*13+11) rfl rfl (Gc (.int .i64 x.f) (fun W hb=>by simp[ha _ hb]) rfl rfl rfl rfl (Gk rfl (Gk rfl (Gf ba (oa+k*7+5) rfl rfl (Gc (.int .i64 a.fi) (fun W hb=>by simp[t _ hb]) rfl rfl rfl rfl (Gb (.bool true) (by simp[go_sem,g2]) rfl rfl rfl rfl rfl (Gk rfl (Gk rfl (Gk rfl (Gk rfl (Gf bg (og+K*13+12) rfl rfl (Gc (.int .i64 x.i) (fun W hb=>by simp[ht _ hb]) rfl rfl rfl rfl (Gk rfl (Gb (.bool true) (by simp[go_sem,g3]) rfl rfl rfl rfl rfl (Gk rfl (Gk rfl (aB)))))))))))))))))))))))))) (fun _=>rfl) rfl ?_;intro y W6 d _;have g:=ae p d;have x8:=hy _ d;have x11:=ha _ d;have a3:=hl _ d;have a4:=hi _ d;have s:=(ex.ext d).cell;unfold jq at s;clear d hl hi t hy ha ht ex hp;have f1:0≤x.f:=by omega
    have f1n:¬x.f<0:=by omega
    replace c:Hid (bW H.ma P.sp n=if a.sh=false∧e.w=true∨e.w=true∧a.wr=false then 7 else 0):=Lib.hid (by rw[c.out,decide_eq_true g1,decide_eq_true g2,decide_eq_true g3];simp[f1n]);clear g2 g3;cases f2:a.sh with
    | true=>
     rw[f2] at a4;cases f3:e.w with
     | false=>
      rw[f3] at s;have hq:Hid (bW H.ma P.sp n=0):=Lib.hid (by rw[c.out];simp[*];try omega);clear c;go_wp2;go_ret;rw[hq.out];exact⟨rfl,g⟩
     | true=>
      rw[f3] at s;cases f4:a.wr with
      | false=>
       rw[f4] at a3;have hq:Hid (bW H.ma P.sp n=7):=Lib.hid (by rw[c.out];simp[*];try omega);clear c;go_wp2;go_ret;rw[hq.out];exact⟨rfl,g⟩
      | true=>
       rw[f4] at a3;have hq:Hid (bW H.ma P.sp n=0):=Lib.hid (by rw[c.out];simp[*];try omega);clear c;go_wp2;go_ret;rw[hq.out];exact⟨rfl,g⟩
    | false=>
     rw[f2] at a4;cases f3:e.w with
     | true=>
      rw[f3] at s;have hq:Hid (bW H.ma P.sp n=7):=Lib.hid (by rw[c.out];simp[*];try omega);clear c;go_wp2;go_ret;rw[hq.out];exact⟨rfl,g⟩
     | false=>
      rw[f3] at s;have hq:Hid (bW H.ma P.sp n=0):=Lib.hid (by rw[c.out];simp[*];try omega);clear c;go_wp2;go_ret;rw[hq.out];exact⟨rfl,g⟩
   skip;refine aK 25 [_,_,_,_,_,_,_,_,_,_,_,_,_,_,_,_,_,_,_,_,_,_,_,_,.v (.bool false)] (Gk rfl (Gk rfl (Gf ba (oa+k*7+5) rfl rfl (Gc (.int .i64 a.fi) (fun W hb=>by simp[t _ hb]) rfl rfl rfl rfl (Gb (.bool true) (by simp[go_sem,g1]) rfl rfl rfl rfl rfl (Gk rfl (Gk rfl (Gk rfl (Gf bg (og+K*13+11) rfl rfl (Gc (.int .i64 x.f) (fun W hb=>by simp[ha _ hb]) rfl rfl rfl rfl (Gk rfl (Gk rfl (Gf ba (oa+k*7+5) rfl rfl (Gc (.int .i64 a.fi) (fun W hb=>by simp[t _ hb]) rfl rfl rfl rfl (Gb (.bool true) (by simp[go_sem,g2]) rfl rfl rfl rfl rfl (Gk rfl (Gk rfl (Gk rfl (Gk rfl (Gf bg (og+K*13+12) rfl rfl (Gc (.int .i64 x.i) (fun W hb=>by simp[ht _ hb]) rfl rfl rfl rfl (Gk rfl (Gb (.bool false) (by simp[go_sem,g3]) rfl rfl rfl rfl rfl (Gk rfl (Gk rfl (aB)))))))))))))))))))))))))) (fun _=>rfl) rfl ?_;intro y W6 d _;have g:=ae p d;have x8:=hy _ d;have x11:=ha _ d;have a3:=hl _ d;have a4:=hi _ d;have s:=(ex.ext d).cell;unfold jq at s;clear d hl hi t hy ha ht ex hp;have hu:(decide (0≤a.fi)&&decide (x.f=a.fi)&&decide (x.i=a.ba+n-a.fr))=false:=by simp[*]
   replace c:Hid (bW H.ma P.sp n=if 0≤x.f∨a.sh=true∨e.w=true∧a.wr=false then 7 else if x.f<0∧e.w=true∧1<x.r then 7 else 0):=Lib.hid (by rw[c.out,hu];simp);clear hu g2 g3
   by_cases f1:0≤x.f
   ·skip;have hq:Hid (bW H.ma P.sp n=7):=Lib.hid (by rw[c.out];simp[*];try omega);clear c;go_wp2;go_ret;rw[hq.out];exact⟨rfl,g⟩
   have f1n:x.f<0:=by omega
   cases f2:a.sh with
   | true=>
    rw[f2] at a4;have hq:Hid (bW H.ma P.sp n=7):=Lib.hid (by rw[c.out];simp[*];try omega);clear c;go_wp2;go_ret;rw[hq.out];exact⟨rfl,g⟩
   | false=>
    rw[f2] at a4;cases f3:e.w with
    | false=>
     rw[f3] at s;have hq:Hid (bW H.ma P.sp n=0):=Lib.hid (by rw[c.out];simp[*];try omega);clear c;go_wp2;go_ret;rw[hq.out];exact⟨rfl,g⟩
    | true=>
     rw[f3] at s;cases f4:a.wr with
     | false=>
      rw[f4] at a3;have hq:Hid (bW H.ma P.sp n=7):=Lib.hid (by rw[c.out];simp[*];try omega);clear c;go_wp2;go_ret;rw[hq.out];exact⟨rfl,g⟩
     | true=>
      rw[f4] at a3
      by_cases f5:1<x.r
      ·skip;have hq:Hid (bW H.ma P.sp n=7):=Lib.hid (by rw[c.out];simp[*];try omega);clear c;go_wp2;go_ret;rw[hq.out];exact⟨rfl,g⟩
      skip;have hq:Hid (bW H.ma P.sp n=0):=Lib.hid (by rw[c.out];simp[*];try omega);clear c;go_wp2;go_ret;rw[hq.out];exact⟨rfl,g⟩
  skip;refine aK 25 [_,_,_,_,_,_,_,_,_,_,_,_,_,_,_,_,_,_,_,_,_,_,_,_,.v (.bool false)] (Gk rfl (Gk rfl (Gf ba (oa+k*7+5) rfl rfl (Gc (.int .i64 a.fi) (fun W hb=>by simp[t _ hb]) rfl rfl rfl rfl (Gb (.bool true) (by simp[go_sem,g1]) rfl rfl rfl rfl rfl (Gk rfl (Gk rfl (Gk rfl (Gf bg (og+K*13+11) rfl rfl (Gc (.int .i64 x.f) (fun W hb=>by simp[ha _ hb]) rfl rfl rfl rfl (Gk rfl (Gk rfl (Gf ba (oa+k*7+5) rfl rfl (Gc (.int .i64 a.fi) (fun W hb=>by simp[t _ hb]) rfl rfl rfl rfl (Gb (.bool false) (by simp[go_sem,g2]) rfl rfl rfl rfl rfl (Gk rfl (Gk rfl (Gk rfl (Gk rfl (Gk rfl (Gk rfl (Gk rfl (Gk rfl (Gk rfl (Gk rfl (aB)))))))))))))))))))))))))) (fun _=>rfl) rfl ?_;intro y W6 d _;have g:=ae p d;have x8:=hy _ d;have x11:=ha _ d;have a3:=hl _ d;have a4:=hi _ d;have s:=(ex.ext d).cell;unfold jq at s;clear d hl hi t hy ha ht ex hp;have hu:(decide (0≤a.fi)&&decide (x.f=a.fi)&&decide (x.i=a.ba+n-a.fr))=false:=by simp[*]
  replace c:Hid (bW H.ma P.sp n=if 0≤x.f∨a.sh=true∨e.w=true∧a.wr=false then 7 else if x.f<0∧e.w=true∧1<x.r then 7 else 0):=Lib.hid (by rw[c.out,hu];simp);clear hu g2
  by_cases f1:0≤x.f
  ·skip;have hq:Hid (bW H.ma P.sp n=7):=Lib.hid (by rw[c.out];simp[*];try omega);clear c;go_wp2;go_ret;rw[hq.out];exact⟨rfl,g⟩
  have f1n:x.f<0:=by omega
  cases f2:a.sh with
  | true=>
   rw[f2] at a4;have hq:Hid (bW H.ma P.sp n=7):=Lib.hid (by rw[c.out];simp[*];try omega);clear c;go_wp2;go_ret;rw[hq.out];exact⟨rfl,g⟩
  | false=>
   rw[f2] at a4;cases f3:e.w with
   | false=>
    rw[f3] at s;have hq:Hid (bW H.ma P.sp n=0):=Lib.hid (by rw[c.out];simp[*];try omega);clear c;go_wp2;go_ret;rw[hq.out];exact⟨rfl,g⟩
   | true=>
    rw[f3] at s;cases f4:a.wr with
    | false=>
     rw[f4] at a3;have hq:Hid (bW H.ma P.sp n=7):=Lib.hid (by rw[c.out];simp[*];try omega);clear c;go_wp2;go_ret;rw[hq.out];exact⟨rfl,g⟩
    | true=>
     rw[f4] at a3
     by_cases f5:1<x.r
     ·skip;have hq:Hid (bW H.ma P.sp n=7):=Lib.hid (by rw[c.out];simp[*];try omega);clear c;go_wp2;go_ret;rw[hq.out];exact⟨rfl,g⟩
     skip;have hq:Hid (bW H.ma P.sp n=0):=Lib.hid (by rw[c.out];simp[*];try omega);clear c;go_wp2;go_ret;rw[hq.out];exact⟨rfl,g⟩
 skip;refine aK 25 [_,_,_,_,_,_,_,_,_,_,_,_,_,_,_,_,_,_,_,_,_,_,_,_,.v (.bool false)] (Gk rfl (Gk rfl (Gf ba (oa+k*7+5) rfl rfl (Gc (.int .i64 a.fi) (fun W hb=>by simp[t _ hb]) rfl rfl rfl rfl (Gb (.bool false) (by simp[go_sem,g1]) rfl rfl rfl rfl rfl (Gk rfl (Gk rfl (Gk rfl (Gk rfl (Gk rfl (Gk rfl (Gk rfl (Gk rfl (Gk rfl (Gk rfl (Gk rfl (Gk rfl (Gk rfl (Gk rfl (Gk rfl (Gk rfl (Gk rfl (Gk rfl (Gk rfl (Gk rfl (aB)))))))))))))))))))))))))) (fun _=>rfl) rfl ?_;intro y W6 d _;have g:=ae p d;have x8:=hy _ d;have x11:=ha _ d;have a3:=hl _ d;have a4:=hi _ d;have s:=(ex.ext d).cell;unfold jq at s;clear d hl hi t hy ha ht ex hp;have hu:(decide (0≤a.fi)&&decide (x.f=a.fi)&&decide (x.i=a.ba+n-a.fr))=false:=by simp[*]
 replace c:Hid (bW H.ma P.sp n=if 0≤x.f∨a.sh=true∨e.w=true∧a.wr=false then 7 else if x.f<0∧e.w=true∧1<x.r then 7 else 0):=Lib.hid (by rw[c.out,hu];simp);clear hu g1
 by_cases f1:0≤x.f
 ·skip;have hq:Hid (bW H.ma P.sp n=7):=Lib.hid (by rw[c.out];simp[*];try omega);clear c;go_wp2;go_ret;rw[hq.out];exact⟨rfl,g⟩
 have f1n:x.f<0:=by omega
 cases f2:a.sh with
 | true=>
  rw[f2] at a4;have hq:Hid (bW H.ma P.sp n=7):=Lib.hid (by rw[c.out];simp[*];try omega);clear c;go_wp2;go_ret;rw[hq.out];exact⟨rfl,g⟩
 | false=>
  rw[f2] at a4;cases f3:e.w with
  | false=>
   rw[f3] at s;have hq:Hid (bW H.ma P.sp n=0):=Lib.hid (by rw[c.out];simp[*];try omega);clear c;go_wp2;go_ret;rw[hq.out];exact⟨rfl,g⟩
  | true=>
   rw[f3] at s;cases f4:a.wr with
   | false=>
    rw[f4] at a3;have hq:Hid (bW H.ma P.sp n=7):=Lib.hid (by rw[c.out];simp[*];try omega);clear c;go_wp2;go_ret;rw[hq.out];exact⟨rfl,g⟩
   | true=>
    rw[f4] at a3
    by_cases f5:1<x.r
    ·skip;have hq:Hid (bW H.ma P.sp n=7):=Lib.hid (by rw[c.out];simp[*];try omega);clear c;go_wp2;go_ret;rw[hq.out];exact⟨rfl,g⟩
    skip;have hq:Hid (bW H.ma P.sp n=0):=Lib.hid (by rw[c.out];simp[*];try omega);clear c;go_wp2;go_ret;rw[hq.out];exact⟨rfl,g⟩
def isK (i:Int) (c:Cc):Bool:=decide (c.k=i)
theorem Nr (c:Cc) (i:Int) (g:Nat) (w:World) (hg:aA w g #[.int .i64 i] 3) :
  Calls Tryz.prog 71 #[.agg (Bf c),.pointer (some ⟨g,0,none⟩)] w fun r w'=>r = .returned (.bool (isK i c))∧Below w.heap.size w w':=by
 go_enter func71,ntmps71;go_upto_region 1 with (fail);refine gF (fun W=>Code.wp _ _ _ _ W) fun W0 a b d => ?_;clear d;have e:=(hg.ext a).cell 0;have f:=b.cell;have q2:(Bf c)[2]?=some (.int .i64 c.k):=rfl;go_wp2;go_ret;exact⟨bQ (by unfold isK;rfl),a⟩
theorem SB (l:List Cc) (a:Option Addr) (c:Nat) (w:World) (hrd:dI w a (l.flatMap mE)) (hl:l.length≤9223372036854775807) (g:Nat) (kk:Int) (hg:aA w g #[.int .i64 kk] 3) :
  Calls Tryz.prog 113 #[.slice a l.length c,.func (.func 71) #[] #[.pointer (some ⟨g,0,none⟩)]] w fun e w'=>e = .returned (.int .i64 (idx (isK kk) l))∧Below w.heap.size w w':=by
 go_enter func113,ntmps113;go_wp2
 go_loopw [8] (fun i wr => ∃k:Nat,k≤l.length∧i = .int .i64 k∧Below w.heap.size w wr∧∀i (h:i<l.length),i<k→(isK kk) l[i]=false) (fun i _=>l.length-(intOf i).toNat)
 case atStart=>exact⟨0,aW _,rfl,Below.refl _ _,fun i _ h=>absurd h (eG _)⟩
 case round=>
  obtain⟨k,hk,rfl,j,n⟩:=hrel;have hp:=Lib.hid n;clear n
  by_cases hlt:k<l.length
  ·obtain⟨b,off,rfl,p⟩:=Bc (hrd.below j) k hlt
   go_wp2_with (refine ax _ _ rfl b (off+k*3) rfl rfl _ p _ underlying106 rfl cached_size ?_)
   refine (Nr l[k] kk g _ (hg.ext j)).mono ?_;rintro e w2 ⟨rfl,o⟩;have f:=ae j o;clear o;cases hpk:(isK kk) l[k]
   ·have m:=Lib.hid hpk;clear hpk;go_wp2;go_roundw
    case rel=>exact⟨k+1,by omega,by go_num,f,lN hp.out hlt m.out⟩
    case measure=>simp[intOf];omega
   have d:=Lib.hid (uw (isK kk) l k hlt hp.out hpk);clear hpk;go_wp2;go_ret;exact⟨aU d.out.symm,f⟩
  have d:=Lib.hid (lG (isK kk) l fun i h=>hp.out i h (by omega));go_wp2;go_ret;exact⟨aU d.out.symm,j⟩
theorem Rw (l:List Cc) (a:Option Addr) (c:Nat) (w:World) (hrd:dI w a (l.flatMap mE)) (hl:l.length≤9223372036854775807) (g:Nat) (kk:Int) (hg:aA w g #[.int .i64 kk] 3) :
  Calls Tryz.prog 70 #[.slice a l.length c,.func (.func 71) #[] #[.pointer (some ⟨g,0,none⟩)]] w fun e w'=>e = .returned (.bool (l.any (isK kk)))∧Below w.heap.size w w':=by
 go_enter func70,ntmps70
 go_wp2_with fail
 refine (SB l a c _ hrd hl g kk hg).mono ?_;rintro e w2 ⟨rfl,b⟩;go_wp2;go_ret;exact⟨bQ (nO _ _),b⟩
theorem Ky (l m:List Int) (a a' : Option Addr) (c c' : Nat) (w:World) (hrd:dI w a (l.map gB)) (hrd' : dI w a' (m.map gB)) (hl:l.length≤9223372036854775807) (hl' : m.length≤9223372036854775807) :
  Calls Tryz.prog 72 #[.slice a l.length c,.slice a' m.length c'] w fun e w'=>e = .returned (.bool (l==m))∧Below w.heap.size w w':=by
 go_enter func72,ntmps72
 by_cases hlm:l.length=m.length
 ·have f:((l.length:Int) != (m.length:Int))=false:=by simp[hlm]
  go_wp2
  go_loopw [13] (fun i wr => ∃k:Nat,k≤l.length∧i = .int .i64 k∧Below w.heap.size w wr∧∀i (h:i<l.length),i<k→l[i]=m[i]'(by omega)) (fun i _=>l.length-(intOf i).toNat)
  case atStart=>exact⟨0,aW _,rfl,Below.refl _ _,fun i _ h=>absurd h (eG _)⟩
  case round=>
   obtain⟨k,hk,rfl,d,hp⟩:=hrel
   by_cases hlt:k<l.length
   ·obtain⟨b,off,rfl,hc⟩:=jD (hrd.below d) k hlt;obtain⟨b',off',rfl,g⟩:=jD (hrd'.below d) k (by omega);have k1:(k:Int)<(m.length:Int):=by omega
    go_wp2_with fail
    go_quiet (fail)
    by_cases he:l[k]=m[k]'(by omega)
    ·have hz:(l[k] != m[k]'(by omega))=false:=by simp[he]
     go_wp2;go_roundw
     case rel=>exact⟨k+1,by omega,by go_num,below_drewN d _,upto hp hlt he⟩
     case measure=>simp[intOf];omega
    have hz:(l[k] != m[k]'(by omega))=true:=by simp[he]
    go_wp2;go_ret;exact⟨bQ (PM k hlt (by omega) he).symm,below_drewN d _⟩
   go_wp2
   all_goals
    go_ret;exact⟨bQ (Qx hlm fun i h=>hp i h (by omega)).symm,d⟩
 have f:((l.length:Int) != (m.length:Int))=true:=by simp;omega
 go_wp2;go_ret;refine⟨bQ ?_,Below.refl _ _⟩;symm;rw[beq_eq_false_iff_ne];rintro rfl;exact hlm rfl
theorem mG (n:Nat) (l:List Int):(ky n l).length=n:=by simp[ky]
theorem nR (n:Nat) (l:List Int) (i:Nat) (hi:i<n):(ky n l)[i]?=some (cnt l i:Int):=by simp[ky,hi]
theorem KL (l:List Int) (k i:Int):cnt (l++[k]) i=cnt l i+(if k=i then 1 else 0):=by
 rw[zU];congr 1;unfold cnt;rw[ou,List.countP_nil]
 by_cases h:k=i
 ·simp[h]
 ·simp[h]
theorem EQ (n:Nat) (l:List Int) (k:Nat) (hk:k<n):(ky n l).set k ((cnt l k:Int)+1)=ky n (l++[(k:Int)]):=by
 apply lU;intro i;rw[kR,mG]
 by_cases e:k=i
 ·subst e;rw[if_pos rfl,if_pos hk,nR _ _ _ hk,KL,if_pos rfl];simp
 rw[if_neg e]
 by_cases hi:i<n
 ·rw[nR _ _ _ hi,nR _ _ _ hi,KL,if_neg (by omega)];rfl
 ·rw[dJ (by rw[mG];omega),dJ (by rw[mG];omega)]
theorem Ko (n:Nat):ky n []=List.replicate n 0:=by
 unfold ky cnt;apply lU;intro i;rw[iU,oK]
 by_cases hi:i<n
 ·rw[sQ hi,if_pos hi];rfl
 ·rw[if_neg hi,dJ (by simp;omega)];rfl
theorem Jv (l:List Int) (i:Int):cnt l i≤l.length:=tH
def IB (w:World) (g:Nat) (l:List Int):Prop:=aA w g (l.map gB).toArray 3
theorem GN (n:Nat):madeCells #[.int .i64 0] n=((List.replicate n (0:Int)).map gB).toArray:=by
 apply Array.ext
 ·simp[size_madeCells]
 intro i h1 h2;simp[madeCells,gB,Nat.mod_one]
theorem IB.cell {l:List Int} (h:IB w g l) {v:Int} (hv:l[k]?=some v):w.cell? ⟨g,k,none⟩=some (.int .i64 v):=by
 have:=aA.cell h k;rw[this];simp[hv,gB]
theorem IB.set {l:List Int} {v:Int} (hk:k<l.length):bD (l.map gB).toArray k [.int .i64 v]=((l.set k v).map gB).toArray:=by
 show ((l.map gB).toArray).setIfInBounds k (.int .i64 v)=_;rw[CZ];simp[gB]
theorem yZ {l r:List Int} (h:∀x∈l,x=0):firstE (l++r)=firstE r:=by
 induction l with
 | nil=>rfl
 | cons a l ih=>
  have h0:=h a ik;rw[IP];rw[firstE,h0];simp only[if_true,ne_eq,not_true_eq_false,if_false];exact ih fun x hx=>h x (jv _ hx)
theorem Qj {x:Int} {r:List Int} (h:x≠0):firstE (x::r)=x:=by
 rw[firstE];simp[h]
theorem Nz {s:Sp} {n:Int} (hs:m.sp[p]?=some s) (hn:(aQ s.tb)[j]?=some n) (h1:∀t∈m.sp.take p,∀i∈aQ t.tb,bW m t i=0) (h2:∀i∈(aQ s.tb).take j,bW m s i=0) (hne:bW m s n≠0):mK m=bW m s n:=by
 unfold mK;have e1:m.sp=m.sp.take p++s::m.sp.drop (p+1):=by rw[←drop_at hs,qN]
 have e2:aQ s.tb=(aQ s.tb).take j++n::(aQ s.tb).drop (j+1):=by rw[←drop_at hn,qN]
 rw[e1,fu,yZ (fun x hx => ?_),lX,e2,gz,iw,yZ (fun x hx => ?_),bA,IP,Qj hne]
 ·obtain⟨i,hi,rfl⟩:=fP.1 hx;exact h2 i hi
 obtain⟨t,ht,hx⟩:=jY.1 hx;obtain⟨i,hi,rfl⟩:=fP.1 hx;exact h1 t ht i hi
theorem Kt (h:∀t∈m.sp,∀i∈aQ t.tb,bW m t i=0):mK m=0:=by
 unfold mK;rw[←kQ (m.sp.flatMap _),yZ (fun x hx => ?_)]
 ·rfl
 obtain⟨t,ht,hx⟩:=jY.1 hx;obtain⟨i,hi,rfl⟩:=fP.1 hx;exact h t ht i hi
theorem Rp {s:Sp} {n:Int} (h:bW m s n=0):((dK s.tb n).k=2→(dK s.tb n).n<m.sl.length)∧((dK s.tb n).k≠2→(dK s.tb n).n<m.m.fs.length):=by
 unfold bW at h;split at h
 ·cases h
 simp only at h;split at h
 ·rename_i h2;split at h
  ·cases h
  rename_i h3;exact⟨fun _=>by omega,fun h'=>absurd h2 h'⟩
 rename_i h2;split at h
 ·cases h
 ·exact⟨fun h'=>absurd h' h2,fun _=>by omega⟩
def lI (m:Ma) (p:Nat) (l:List Int):List Int:=m.ca.map Cc.k++(m.sp.take p).flatMap (fun s=>nI s.tb (aQ s.tb))++l
def jU (m:Ma) (p:Nat) (l:List Int):List Int:=(m.sp.take p).flatMap (fun s=>swapT s.tb (aQ s.tb))++l
theorem Qi (t:Tb) (l:List Int) (n:Int):nI t (l++[n])=nI t l++(if (dK t n).k=1 then [(dK t n).n] else []):=by
 unfold nI;rw[qX,gz];congr 1
 by_cases h:(dK t n).k=1
 ·simp[h]
 ·simp[h]
theorem OW (t:Tb) (l:List Int) (n:Int):swapT t (l++[n])=swapT t l++(if (dK t n).k=1 then [] else [(dK t n).n]):=by
 unfold swapT;rw[qX,gz];congr 1
 by_cases h:(dK t n).k=1
 ·simp[h]
 ·simp[h]
theorem Nt {s:Sp} (hs:m.sp[p]?=some s):lI m p (nI s.tb (aQ s.tb))=lI m (p+1) []:=by
 unfold lI;rw[take_at hs,fu,kQ,iw];simp
theorem Kc {s:Sp} (hs:m.sp[p]?=some s):jU m p (swapT s.tb (aQ s.tb))=jU m (p+1) []:=by
 unfold jU;rw[take_at hs,fu,kQ];simp
theorem Pk (m:Ma):lI m m.sp.length []=sG m:=by unfold lI sG;rw[yj,kQ]
theorem LX (m:Ma):jU m m.sp.length []=qd m:=by unfold jU qd;rw[yj,kQ]
theorem Mi (m:Ma) (p:Nat) (l:List Int) (k:Int):lI m p (l++[k])=lI m p l++[k]:=by unfold lI;rw[iw,iw,iw]
theorem JY (m:Ma) (p:Nat) (l:List Int) (k:Int):jU m p (l++[k])=jU m p l++[k]:=by unfold jU;rw[iw]
theorem BF (t:Tb) (l:List Int):(nI t l).length≤l.length:=by unfold nI;rw[eH];exact Ba _ _
theorem GK (t:Tb) (l:List Int):(swapT t l).length≤l.length:=by unfold swapT;rw[eH];exact Ba _ _
theorem flat_len {α:Type} (g:α→List Int) (c:Nat) (h:∀x,(g x).length≤c):∀l:List α,(l.flatMap g).length≤c*l.length
 | []=>by simp
 | x::l=>by have h1:=flat_len g c h l;have h2:=h x;rw[lX,jP,pG,Nat.mul_succ];omega
theorem wF (t:Tb):(aQ t).length≤64:=sJ t 64
theorem PR (m:Ma) (p:Nat) (l:List Int):(lI m p l).length≤m.ca.length+64*m.sp.length+l.length:=by
 unfold lI;have h1:=flat_len (fun s:Sp=>nI s.tb (aQ s.tb)) 64 (fun s=>aY (BF _ _) (wF _)) (m.sp.take p);have h2:(m.sp.take p).length≤m.sp.length:=by rw[kK];omega
 simp only[jP,eH];omega
theorem Qq (h:vB m) (p:Nat) (l:List Int) (K:Int):cnt (lI m p l) K≤1+64*m.sp.length+l.length:=by
 unfold lI;rw[zU,zU];have h1:=flat_len (fun s:Sp=>nI s.tb (aQ s.tb)) 64 (fun s=>aY (BF _ _) (wF _)) (m.sp.take p);have h2:(m.sp.take p).length≤m.sp.length:=by rw[kK];omega
 have h3:cnt (m.ca.map Cc.k) K=xw m K:=by unfold cnt xw;rw[sP];rfl
 have h4:=Td h K;have h5:=Jv ((m.sp.take p).flatMap fun s=>nI s.tb (aQ s.tb)) K;have h6:=Jv l K;omega
theorem Mt (m:Ma) (p:Nat) (l:List Int):(jU m p l).length≤64*m.sp.length+l.length:=by
 unfold jU;have h1:=flat_len (fun s:Sp=>swapT s.tb (aQ s.tb)) 64 (fun s=>aY (GK _ _) (wF _)) (m.sp.take p);have h2:(m.sp.take p).length≤m.sp.length:=by rw[kK];omega
 simp only[jP];omega
theorem Ow (w:World) (c1 c2:Array Value) (T1 T2:TypeId):Below w.heap.size w ((w.alloc (.cells c1 T1)).alloc (.cells c2 T2)).drew∧aA ((w.alloc (.cells c1 T1)).alloc (.cells c2 T2)).drew w.heap.size c1 T1∧aA ((w.alloc (.cells c1 T1)).alloc (.cells c2 T2)).drew (w.heap.size+1) c2 T2:=by
 have e:(w.alloc (.cells c1 T1)).heap.size=w.heap.size+1:=Aa _;have h1:Below w.heap.size w ((w.alloc (.cells c1 T1)).alloc (.cells c2 T2)):=((Below.refl _ _).alloc (az _) _).alloc (by omega) _;have h2:aA ((w.alloc (.cells c1 T1)).alloc (.cells c2 T2)) w.heap.size c1 T1:=(aA.new w c1 T1).ext ((Below.refl _ _).alloc (az _) _);have h3:aA ((w.alloc (.cells c1 T1)).alloc (.cells c2 T2)) (w.heap.size+1) c2 T2:=by rw[←e];exact aA.new _ _ _
 exact⟨⟨h1.os,h1.tape,h1.output,h1.size,h1.block⟩,h2,h3⟩
theorem int_one:(Tryz.prog.info? 3).map (·.size)=some 1:=by kernel_rfl
theorem int_inf:(Tryz.prog.info? 3).map (fun i=>(i.zero,i.size,i.bytes))=some (some (.int .i64 0),1,8):=by kernel_rfl
theorem Er {y:Operand} {k:IntKind} (ho:o.op = .indexAddr t x y) (hx:ρ x = .slice (some ⟨b,0,none⟩) n c) (hy:ρ y = .int k (i:Int)) (hi:i<n)
 (hu:P.underlying t=some (.slice e)) (hs:(P.info? e).map (·.size)=some 1):(execOp ρ o).run P w = .ok (.value (.pointer (some ⟨b,i,none⟩))) w:=by
 have:=bG (w:=w) ho hx hy hi hu hs;rw[this];simp
def FV (m:Ma) (i:Nat):Bool:=decide ((qG m i).r=cnt (sG m) i)&&(decide ((qG m i).f<0)||m.ca.any fun c=>decide (c.k=i))
theorem KT (m:Ma):countB m=((List.range m.m.fs.length).all (FV m)&&decide (m.sl=ky m.sl.length (qd m))):=rfl
theorem KQ (h:countB m=true) (k:Nat) (hk:k<m.m.fs.length):FV m k=true:=by
 rw[KT,dU,dF] at h;exact h.1 k (dG.2 hk)
theorem mI (H:MH) (w:World) (h:BH w H) :
  Calls Tryz.prog 37 #[.agg (bS H)] w fun r w'=>r = .returned (.int .i64 (jR H.ma))∧Below w.heap.size w w':=by
 have gS:H.m.fs.length*8≤281474976710656∧H.sl.length*8≤281474976710656∨¬iq H.ma=0:=by
  by_cases e:iq H.ma=0
  ·have hp:=(wU.1 e).1;have h1:=((eQ _).1 hp.fr).1;have h2:=jf hp.sl;have qi : H.m.fs.length≤40:=h1;have qh : H.sl.length≤60:=h2;exact .inl ⟨by omega,by omega⟩
  ·exact .inr e
 go_enter func37,ntmps37;go_upto_region 1 with (fail);refine gF (fun W=>Code.wp _ _ _ _ W) fun w1 kh bx1 gM => ?_;have h1:=h.below kh;have bx:aA w1 w.heap.size (bS H) 41:=bx1;clear bx1 gM
 go_wp2_with fail
 refine (Qg H w.heap.size _ bx h1).mono ?_;rintro r w2 ⟨rfl,kW⟩;have h5:=ae kh kW;have bx2:=bx.ext kW;clear bx h1 kh kW
 by_cases e1:iq H.ma=0
 rotate_left
 ·have hq:Hid (jR H.ma=iq H.ma):=Lib.hid (by unfold jR;rw[if_pos e1]);generalize iq H.ma=E at *
  go_wp2;go_ret;rw[hq.out];exact⟨rfl,h5⟩
 rw[e1]
 go_wp2_with fail
 refine (Ms H w.heap.size _ bx2 (h.below h5)).mono ?_;rintro r w3 ⟨rfl,kV⟩;have hR:=ae h5 kV;have bx3:=bx2.ext kV;clear bx2 h5 kV
 by_cases e2:cachedE H.ma=0
 rotate_left
 ·have hq:Hid (jR H.ma=cachedE H.ma):=Lib.hid (by unfold jR;rw[if_neg (by rw[e1];simp),if_pos e2]);generalize cachedE H.ma=E at *
  go_wp2;go_ret;rw[hq.out];exact⟨rfl,hR⟩
 rw[e2];have kj:=(wU.1 e1).1;have n1:H.m.fs.length≤40:=((eQ _).1 kj.fr).1;have n2:H.sl.length≤60:=jf kj.sl;have n3:H.sp.length≤4:=by have:=kj.spl;rw[Dq] at this;exact this
 have kB:=Lib.hid kj;have kx:=Lib.hid (zY.1 e2);have kG:Hid (jR H.ma=if mK H.ma≠0 then mK H.ma else if countB H.ma=true then 0 else 7):=Lib.hid (by unfold jR;rw[if_neg (by rw[e1];simp),if_neg (by rw[e2];simp)]);clear e1 e2 kj gS;go_upto_region 7 with (fail);have l:=bx3.cell;unfold bS at l;have kw:=fun ob=>(bx3.ext ((Below.refl _ _).alloc (az _) ob)).cell;unfold bS at kw;have gc:=run_make_row' (P:=Tryz.prog) 29 3 (.int .i64 0) 8 underlying29 int_inf rfl .i64 .i64 H.m.fs.length (by omega) (by omega);have gb:=run_make_row' (P:=Tryz.prog) 29 3 (.int .i64 0) 8 underlying29 int_inf rfl .i64 .i64 H.sl.length (by omega) (by omega)
 go_cut [5,6] (fun s5 s6 wx => ∃gh gs,s5 = .slice (some ⟨gh,0,none⟩) H.m.fs.length H.m.fs.length∧s6 = .slice (some ⟨gs,0,none⟩) H.sl.length H.sl.length∧gh≠gs∧w3.heap.size≤gh∧w3.heap.size≤gs∧Below w3.heap.size w3 wx∧aA wx gh (madeCells #[.int .i64 0] H.m.fs.length) 3∧aA wx gs (madeCells #[.int .i64 0] H.sl.length) 3)
 case first=>
  go_region
  all_goals (go_wp2_with fail;go_meet)
  ·obtain⟨z1,z2,z3⟩:=Ow w3 (madeCells #[.int .i64 0] H.m.fs.length) (madeCells #[.int .i64 0] H.sl.length) 3 3;exact⟨_,_,rfl,rfl,by omega,by omega,by omega,z1,z2,z3⟩
  obtain⟨z1,z2,z3⟩:=Ow w3 (madeCells #[.int .i64 0] H.sl.length) (madeCells #[.int .i64 0] H.m.fs.length) 3 3;exact⟨_,_,rfl,rfl,by omega,by omega,by omega,z1,z3,z2⟩
 case rest=>
  obtain⟨gh,gs,rfl,rfl,kM,gm,gj,kU,d,b⟩:=hcut;have kz:=ae hR kU;have bx4:=bx3.ext kU;have k1:w.heap.size≤gh:=aY hR.size gm;have gK:w.heap.size≤gs:=aY hR.size gj;have gt:w.heap.size≠gh:=by have:=bx3.lt;omega
  have gW:w.heap.size≠gs:=by have:=bx3.lt;omega
  have kE:IB wc gh (ky H.m.fs.length ((H.ca.take 0).map Cc.k)):=by rw[IR,bB,Ko];unfold IB;rw[←GN];exact d
  have kC:IB wc gs (ky H.sl.length []):=by rw[Ko];unfold IB;rw[←GN];exact b
  clear l kw gc gb d b kU bx3 hR gm gj;have l:=bx4.cell;unfold bS at l;go_upto_region 9 with (fail);clear l;have qg:=h.ca.le;have gV:=h.ca.mx;unfold maxLen at gV
  go_loopw [37] (fun i wr => ∃(k:Nat),k≤H.ca.length∧i = .int .i64 k∧Below w.heap.size w wr∧aA wr w.heap.size (bS H) 41∧IB wr gh (ky H.m.fs.length ((H.ca.take k).map Cc.k))∧IB wr gs (ky H.sl.length [])) (fun i _=>H.ca.length-(intOf i).toNat)
  case atStart=>exact⟨0,aW _,rfl,kz,bx4,kE,kC⟩
  case round=>
   clear kz bx4 kE kC;obtain⟨k,hk,rfl,o,bx,d,b⟩:=hrel
   by_cases hkl:k<H.ca.length
   ·obtain⟨bc,oc,g0,hf⟩:=jH pR (by decide) (h.below o).ca.rd k hkl;have kO:(k:Int)<(H.ca.length:Int):=by omega
    have g8:0≤H.ca[k].k∧H.ca[k].k<H.m.fs.length:=kx.out.lt _ (dM hkl);have h7:Hid ((H.ca.take (k+1)).map Cc.k=(H.ca.take k).map Cc.k++[H.ca[k].k]):=Lib.hid (by rw[take_at (aI hkl),gz];rfl);have kN:((H.ca.take k).map Cc.k).length≤k:=by rw[eH,kK];omega
    generalize H.ca[k]=c at *
    obtain⟨K,gr⟩:∃K:Nat,c.k=K:=⟨c.k.toNat,by omega⟩;have hy:K<H.m.fs.length:=by omega
    rw[gr] at h7;rw[g0];generalize (H.ca.take k).map Cc.k=L at *
    go_wp2_with (first | (refine ax _ _ rfl bc (oc+k*3) rfl rfl _ hf _ underlying106 rfl cached_size ?_) | (refine aF rfl _ _ _ rfl (Bf c) rfl rfl rfl cached_size (wm c) ?_))
    intro w5 s cx;have hI:=ae o s;have bx5:=bx.ext s;have hM:IB w5 gh (ky H.m.fs.length L):=d.ext s;have hW:IB w5 gs (ky H.sl.length []):=b.ext s;clear o bx d b hf s;have kS:=cx.cell;unfold Bf at kS;rw[gr] at kS;have hZ:=hM.cell (nR H.m.fs.length L K hy);have kv:=Jv L K;have ka:IntKind.i64.wrap ((cnt L K:Int)+1)=(cnt L K:Int)+1:=bO _ (by omega);have gw:(K:Int)<(H.m.fs.length:Int):=by omega
    go_wp2_with (refine aD rfl _ _ _ rfl gh K _ [.int .i64 ((cnt L K:Int)+1)] rfl rfl rfl _ _ hM (by simp[mG];omega) int_one (fun u hu=>by cases bv.1 hu;rfl) ?_)
    intro w6 hh hl;rw[IB.set (by rw[mG];exact hy),EQ _ _ _ hy,←h7.out] at hh;have q:=hI.grown hl hI.size (fun k hk=>by cases hk;exact k1);have bx6:=bx5.grown hl (fun e=>gt (aJ e).symm);have hc:IB w6 gs (ky H.sl.length []):=aA.grown hW hl (fun e=>kM (aJ e));clear hI bx5 hW hM kS hZ cx hl ka;go_wp2;go_roundw
    case rel=>exact⟨k+1,by omega,by go_num,q,bx6,hh,hc⟩
    case measure=>simp[intOf];omega
   have kO:¬(k:Int)<(H.ca.length:Int):=by omega
   rw[iJ (by omega)] at d;have kF:IB wr gh (ky H.m.fs.length (lI H.ma 0 [])):=by
    have e:lI H.ma 0 []=H.ca.map Cc.k:=by show H.ca.map Cc.k++[]++[]=_;rw[kQ,kQ]
    rw[e];exact d
   have kD:IB wr gs (ky H.sl.length (jU H.ma 0 [])):=b;clear d b;have l:=bx.cell;unfold bS at l;go_upto_region 14 with (fail);clear l
   go_loopw [52] (fun i wr => ∃(p:Nat),p≤H.sp.length∧i = .int .i64 p∧Below w.heap.size w wr∧aA wr w.heap.size (bS H) 41∧IB wr gh (ky H.m.fs.length (lI H.ma p []))∧IB wr gs (ky H.sl.length (jU H.ma p []))∧Hid (∀t∈H.ma.sp.take p,∀i∈aQ t.tb,bW H.ma t i=0)) (fun i _=>H.sp.length-(intOf i).toNat)
   case atStart=>exact⟨0,aW _,rfl,o,bx,kF,kD,Lib.hid fun t ht=>by simp at ht⟩
   case round=>
    clear o bx kF kD;obtain⟨p,hp,rfl,o,bx,d,b,hz⟩:=hrel
    by_cases hpl:p<H.sp.length
    ·obtain⟨bs,os,P,kX,hP,hf⟩:=wN (h.below o).sp.rd p hpl;have ha:=qU (h.below o) hP;have gQ:(p:Int)<(H.sp.length:Int):=by omega
     have kk:H.ma.sp[p]?=some P.sp:=by show (H.sp.map PS.sp)[p]?=_;rw[iU,hP];rfl
     have gu:(bJ P.ar).1=0:=kB.out.ar P.sp (bN kk);have kn:dh P.tb=0:=kB.out.tb P.sp (bN kk);have hG:=Lib.hid kk;have gv:=Lib.hid hP;have l:=bx.cell;unfold bS at l;rw[kX] at l;clear kk hP
     go_wp2_with (refine ax _ _ rfl bs (os+p*10+2) rfl rfl _ (rQ hf 2 8) _ underlying53 tab_agg tab_size ?_)
     refine (yX P.tb (nG P.ts) _ ha.tb).mono ?_;rintro r w5 ⟨v5,rfl,kJ,s⟩;obtain⟨a5,c5,rfl,g5,g4,_,gO⟩:=kJ.rd;have gd:gh<wr.heap.size∧gs<wr.heap.size:=⟨aA.lt d,aA.lt b⟩;have hI:=ae o s;have bx5:=bx.ext s;have hM:IB w5 gh (ky H.m.fs.length (lI H.ma p (nI P.tb ((aQ P.tb).take 0)))):=d.ext s;have hW:IB w5 gs (ky H.sl.length (jU H.ma p (swapT P.tb ((aQ P.tb).take 0)))):=b.ext s;have kr:=hf.below s;have h9:=ha.below s;have k0:=Lib.hid gd;clear l o bx d b hf ha s gO;have k4:=Lib.hid (TU P.tb);have gP:=wF P.tb;go_upto_region 18 with (fail)
     go_loopw [65] (fun i wr' => ∃(j:Nat),j≤(aQ P.tb).length∧i = .int .i64 j∧Below w.heap.size w wr'∧aA wr' w.heap.size (bS H) 41∧IB wr' gh (ky H.m.fs.length (lI H.ma p (nI P.tb ((aQ P.tb).take j))))∧IB wr' gs (ky H.sl.length (jU H.ma p (swapT P.tb ((aQ P.tb).take j))))∧Own wr' wr.heap.size 3 1 (.slice a5 (aQ P.tb).length c5) (aQ P.tb).length ((aQ P.tb).map gB)∧dI wr' (some ⟨bs,os+p*10,none⟩) (uj P)∧P.good wr'∧Hid (∀i∈(aQ P.tb).take j,bW H.ma P.sp i=0)) (fun i _=>(aQ P.tb).length-(intOf i).toNat)
     case atStart=>exact⟨0,aW _,rfl,hI,bx5,hM,hW,kJ,kr,h9,Lib.hid fun i hi=>by simp at hi⟩
     case round=>
      clear hI bx5 hM hW kJ kr h9;obtain⟨j,hj,rfl,o,bx,d,b,ho,hf,ha,h6⟩:=hrel;obtain⟨gk,g9⟩:=k0.out
      by_cases hjl:j<(aQ P.tb).length
      ·have gT:(j:Int)<((aQ P.tb).length:Int):=by omega
       obtain⟨_,_,e9,_,_,_,k3⟩:=ho.rd;cases e9;have kL:(aQ P.tb)[j]?=some (aQ P.tb)[j]:=aI hjl;have gR:=k4.out _ (dM hjl);have k9:(dK P.tb (aQ P.tb)[j]).k≠0:=(oM.1 (dM hjl)).2;obtain⟨bp,op,k5,gU⟩:=jD k3 j hjl;generalize hN:(aQ P.tb)[j]=n at *
       have h7:Hid ((aQ P.tb).take (j+1)=(aQ P.tb).take j++[n]):=Lib.hid (take_at kL);have ga:=Lib.hid kL;have ks:=Lib.hid k5;have ku:=(cO _).1 (pY kn n);rw[k5];clear kL hN k3
       go_wp2_with fail
       refine (Na H P n w.heap.size bs (os+p*10) _ bx (h.below o) hf ha gu kn gR).mono ?_;rintro r w6 ⟨rfl,hh⟩;have q:=ae o hh;have bx6:=bx.ext hh;have z:=aA.ext d hh;have hc:=aA.ext b hh;have k8:=ho.below hh;have kc:=hf.below hh;have hl:=ha.below hh;clear o bx d b ho hf ha hh gU
       by_cases hE:bW H.ma P.sp n=0
       rotate_left
       ·have hq:Hid (jR H.ma=bW H.ma P.sp n):=Lib.hid (by have:=Nz hG.out ga.out hz.out h6.out hE;rw[kG.out,this,if_pos hE]);generalize bW H.ma P.sp n=E at *
        go_wp2;go_ret;rw[hq.out];exact⟨rfl,q⟩
       have gf:=Rp hE;have hO:Hid (∀i∈(aQ P.tb).take (j+1),bW H.ma P.sp i=0):=Lib.hid fun i hi=>by
        rw[h7.out] at hi;rcases fV.1 hi with hi|hi
        ·exact h6.out i hi
        ·rw[bv.1 hi];exact hE
       rw[hE];clear h6 hE
       go_wp2_with (refine ax _ _ rfl bs (os+p*10+2) rfl rfl _ (rQ kc 2 8) _ underlying53 tab_agg tab_size ?_)
       refine (AL P.tb (nG P.ts) n _ hl.tb).mono ?_;rintro r w7 ⟨rfl,hU⟩;have h4:((dK P.tb n).k=2→(dK P.tb n).n<H.sl.length)∧((dK P.tb n).k≠2→(dK P.tb n).n<H.m.fs.length):=gf;have k6:nI P.tb ((aQ P.tb).take (j+1))=nI P.tb ((aQ P.tb).take j)++(if (dK P.tb n).k=1 then [(dK P.tb n).n] else []):=by rw[h7.out,Qi]
       have k2:swapT P.tb ((aQ P.tb).take (j+1))=swapT P.tb ((aQ P.tb).take j)++(if (dK P.tb n).k=1 then [] else [(dK P.tb n).n]):=by rw[h7.out,OW]
       have qf:=PR H.ma p (nI P.tb ((aQ P.tb).take j));have g7:=BF P.tb ((aQ P.tb).take j);have qe:=Mt H.ma p (swapT P.tb ((aQ P.tb).take j));have g6:=GK P.tb ((aQ P.tb).take j);have qc:((aQ P.tb).take j).length≤64:=by rw[kK];omega
       have qb:H.ma.ca.length=H.ca.length:=rfl;have qa:H.ma.sp.length=H.sp.length:=Dq H;generalize dK P.tb n=e at *
       generalize nI P.tb ((aQ P.tb).take j)=L1 at *
       generalize swapT P.tb ((aQ P.tb).take j)=L2 at *
       have kt:=Lib.hid k6;have ko:=Lib.hid k2;clear gf k6 k2;have hg:=ae q hU;have bx7:=bx6.ext hU;have hD:=aA.ext z hU;have hB:=aA.ext hc hU;have k7:=k8.below hU;have kq:=kc.below hU;have gp:=hl.below hU;clear q bx6 z hc k8 kc hl hU
       go_wp2_with (refine aF rfl _ _ _ rfl (jq e) rfl rfl rfl entry_size (by simp[jq,Value.oneCell']) ?_)
       intro w8 hT ex;have hH:=ae hg hT;have bx8:=bx7.ext hT;have hL:IB w8 gh _:=aA.ext hD hT;have hJ:IB w8 gs _:=aA.ext hB hT;have h8:=k7.below hT;have kp:=kq.below hT;have gn:=gp.below hT;clear hg bx7 hD hB k7 kq gp hT;have hZ:=ex.cell;unfold jq at hZ
       by_cases hk1:e.k=1
       ·obtain⟨K,hK⟩:∃K:Nat,e.n=K:=⟨e.n.toNat,by omega⟩;have hy:K<H.m.fs.length:=by have:=h4.2 (by omega);omega
        have hr:=kt.out;have hm:=ko.out;rw[if_pos hk1,hK] at hr;rw[if_pos hk1,kQ] at hm;rw[hk1,hK] at hZ;have kR:=hL.cell (nR H.m.fs.length (lI H.ma p L1) K hy);have kv:=Qq kx.out p L1 K;have ka:IntKind.i64.wrap ((cnt (lI H.ma p L1) K:Int)+1)=(cnt (lI H.ma p L1) K:Int)+1:=bO _ (by omega);have gw:(K:Int)<(H.m.fs.length:Int):=by omega
        have kd:=Lib.hid hr;have kb:=Lib.hid hm;clear hr hm h4 hk1 k9 ku hK
        go_wp2_with (refine aD rfl _ _ _ rfl gh K _ [.int .i64 ((cnt (lI H.ma p L1) K:Int)+1)] rfl rfl rfl _ _ hL (by simp[mG];omega) int_one (fun u hu=>by cases bv.1 hu;rfl) ?_)
        intro w9 kg hs;rw[IB.set (by rw[mG];exact hy),EQ _ _ _ hy,←Mi,←kd.out] at kg;rw[←kb.out] at hJ;have hQ:=hH.grown hs hH.size (fun k hk=>by cases hk;exact k1);have bx9:=bx8.grown hs (fun e=>gt (aJ e).symm);have gA:IB w9 gs _:=aA.grown hJ hs (fun e=>kM (aJ e));have hY:BH w9 H:=h.below hQ;obtain⟨bs',os',P',hV,h0,hX⟩:=wN hY.sp.rd p hpl;have kY:P' = P:=by have h2:H.ma.sp[p]?=some P.sp:=hG.out;rw[gv.out] at h0;exact (aJ h0).symm
        subst kY;rw[kX] at hV;cases hV;have ke:=hY.ps P' (bN h0);have kI:=h8.grown hs (fun g hv e=>by have:=h8.ge g hv;have e2:=aJ e;omega);clear hH bx8 hJ hL hZ ex hs ka kR h8 kp gn hY;go_wp2;go_roundw
        case rel=>exact⟨j+1,by omega,by go_num,hQ,bx9,kg,gA,by rw[←ks.out];exact kI,hX,ke,hO⟩
        case measure=>simp[intOf];omega
       obtain⟨K,hK⟩:∃K:Nat,e.n=K:=⟨e.n.toNat,by omega⟩;have kP:e.k=2:=by omega
       have hy:K<H.sl.length:=by have:=h4.1 kP;omega
       have hr:=kt.out;have hm:=ko.out;rw[if_neg hk1,kQ] at hr;rw[if_neg hk1,hK] at hm;rw[kP,hK] at hZ;have kR:=hJ.cell (nR H.sl.length (jU H.ma p L2) K hy);have kv:=Jv (jU H.ma p L2) K;have ka:IntKind.i64.wrap ((cnt (jU H.ma p L2) K:Int)+1)=(cnt (jU H.ma p L2) K:Int)+1:=bO _ (by omega);have gw:(K:Int)<(H.sl.length:Int):=by omega
       have kd:=Lib.hid hr;have kb:=Lib.hid hm;clear hr hm h4 hk1 kP k9 ku hK
       go_wp2_with (refine aD rfl _ _ _ rfl gs K _ [.int .i64 ((cnt (jU H.ma p L2) K:Int)+1)] rfl rfl rfl _ _ hJ (by simp[mG];omega) int_one (fun u hu=>by cases bv.1 hu;rfl) ?_)
       intro w9 kg hs;rw[IB.set (by rw[mG];exact hy),EQ _ _ _ hy,←JY,←kb.out] at kg;rw[←kd.out] at hL;have hQ:=hH.grown hs hH.size (fun k hk=>by cases hk;exact gK);have bx9:=bx8.grown hs (fun e=>gW (aJ e).symm);have gD:IB w9 gh _:=aA.grown hL hs (fun e=>kM (aJ e).symm);have hY:BH w9 H:=h.below hQ;obtain⟨bs',os',P',hV,h0,hX⟩:=wN hY.sp.rd p hpl;have kY:P' = P:=by have h2:H.ma.sp[p]?=some P.sp:=hG.out;rw[gv.out] at h0;exact (aJ h0).symm
       subst kY;rw[kX] at hV;cases hV;have ke:=hY.ps P' (bN h0);have kI:=h8.grown hs (fun g hv e=>by have:=h8.ge g hv;have e2:=aJ e;omega);clear hH bx8 hJ hL hZ ex hs ka kR h8 kp gn hY;go_wp2;go_roundw
       case rel=>exact⟨j+1,by omega,by go_num,hQ,bx9,gD,kg,by rw[←ks.out];exact kI,hX,ke,hO⟩
       case measure=>simp[intOf];omega
      have gT:¬(j:Int)<((aQ P.tb).length:Int):=by omega
      rw[iJ (by omega)] at d b h6;have gE:IB wr gh (ky H.m.fs.length (lI H.ma (p+1) [])):=by rw[←Nt hG.out];exact d
      have gC:IB wr gs (ky H.sl.length (jU H.ma (p+1) [])):=by rw[←Kc hG.out];exact b
      have hO:Hid (∀t∈H.ma.sp.take (p+1),∀i∈aQ t.tb,bW H.ma t i=0):=Lib.hid fun t ht i hi=>by
       rw[take_at hG.out] at ht;rcases fV.1 ht with ht|ht
       ·exact hz.out t ht i hi
       rw[bv.1 ht] at hi ⊢;exact h6.out i hi
      clear d b ho hf ha hz h6;go_wp2;go_roundw
      case rel=>
       refine⟨_,_,_,_,_,_,.int .i64 ((p:Int)+1),⟨p+1,by omega,?_,gE,gC,hO⟩,rfl,rfl,rfl,rfl,rfl,rfl,rfl⟩;go_num
      case measure=>simp[intOf];omega
    have gQ:¬(p:Int)<(H.sp.length:Int):=by omega
    have kl:p=H.ma.sp.length:=by rw[Dq];omega
    rw[kl,Pk] at d;rw[kl,LX] at b;rw[kl,yj] at hz;have h3:Hid (jR H.ma=if countB H.ma=true then 0 else 7):=Lib.hid (by rw[kG.out,if_neg (by rw[Kt hz.out];simp)]);clear hz kG kl;have l:=bx.cell;unfold bS at l;go_upto_region 30 with (fail);clear l
    go_loopw [104] (fun i wr => ∃(k:Nat),k≤H.m.fs.length∧i = .int .i64 k∧Below w.heap.size w wr∧aA wr w.heap.size (bS H) 41∧IB wr gh (ky H.m.fs.length (sG H.ma))∧IB wr gs (ky H.sl.length (qd H.ma))∧Hid (∀i,i<k→FV H.ma i=true)) (fun i _=>H.m.fs.length-(intOf i).toNat)
    case atStart=>exact⟨0,aW _,rfl,o,bx,d,b,Lib.hid fun i hi=>absurd hi (eG _)⟩
    case round=>
     clear o bx d b;obtain⟨k,hk,rfl,o,bx,d,b,hO⟩:=hrel
     by_cases hkl:k<H.m.fs.length
     ·obtain⟨bg,og,gY,hf⟩:=jH eZ (by decide) (h.below o).fr.rd k hkl;have kO:(k:Int)<(H.m.fs.length:Int):=by omega
      have kZ:H.m.fs[k]=aR H.ma k:=by have:=yQ (m:=H.ma) (f:=k) hkl;have h2:H.m.fs[k]?=some (aR H.ma k):=this;rw[aI hkl] at h2;exact aJ h2
      rw[kZ] at hf;have km:Hid (FV H.ma k=(decide ((aR H.ma k).r=cnt (sG H.ma) k)&&(decide ((aR H.ma k).f<0)||H.ca.any (isK (k:Int))))):=Lib.hid rfl;generalize aR H.ma k=x at *
      rw[gY];clear kZ;obtain⟨gi,gl⟩:∃g,g=wr.heap.size:=⟨_,rfl⟩;go_upto_region 31 with (fail);have gk:gh<wr.heap.size∧gs<wr.heap.size:=⟨aA.lt d,aA.lt b⟩;have gX:=bx.lt;have kT:Below wr.heap.size wr ((wr.alloc (.cells #[.int .i64 0] 3)).alloc (.cells #[.int .u8 0,.int .u8 0,.int .u8 0,.int .u8 0,.int .u8 0,.int .u8 0,.int .u8 0,.int .u8 0,.int .i64 0,.bool false,.bool false,.int .i64 0,.int .i64 0] 81)):=((Below.refl _ _).alloc (az _) _).alloc (by rw[show (wr.alloc (.cells #[.int .i64 0] 3)).heap.size=wr.heap.size+1 from Aa _];omega) _;have e1:(wr.alloc (.cells #[.int .i64 0] 3)).heap.size=wr.heap.size+1:=Aa _;have gH:aA ((wr.alloc (.cells #[.int .i64 0] 3)).alloc (.cells #[.int .u8 0,.int .u8 0,.int .u8 0,.int .u8 0,.int .u8 0,.int .u8 0,.int .u8 0,.int .u8 0,.int .i64 0,.bool false,.bool false,.int .i64 0,.int .i64 0] 81)) wr.heap.size #[.int .i64 0] 3:=(aA.new wr _ _).ext ((Below.refl _ _).alloc (az _) _);have gG:aA ((wr.alloc (.cells #[.int .i64 0] 3)).alloc (.cells #[.int .u8 0,.int .u8 0,.int .u8 0,.int .u8 0,.int .u8 0,.int .u8 0,.int .u8 0,.int .u8 0,.int .i64 0,.bool false,.bool false,.int .i64 0,.int .i64 0] 81)) (wr.heap.size+1) #[.int .u8 0,.int .u8 0,.int .u8 0,.int .u8 0,.int .u8 0,.int .u8 0,.int .u8 0,.int .u8 0,.int .i64 0,.bool false,.bool false,.int .i64 0,.int .i64 0] 81:=by rw[←e1];exact aA.new _ _ _
      go_wp2_with (first | (refine ax _ _ rfl bg (og+k*13) rfl rfl _ hf _ underlying81 rfl frame_size ?_) | (refine aD rfl _ _ _ rfl wr.heap.size 0 _ [.int .i64 (k:Int)] rfl rfl rfl _ _ gH (by show 0+1≤1;decide) int_one (fun u hu=>by cases bv.1 hu;rfl) ?_))
      intro w5 s h9;have kA : aA w5 wr.heap.size #[.int .i64 (k:Int)] 3:=s;have gq:=gG.grown h9 (fun e=>by have:=aJ e;omega);have kf:=kT.grown h9 kT.size (fun k hk=>by cases hk;exact az _)
      go_wp2_with (refine gZ rfl _ _ _ rfl (wr.heap.size+1) 0 (vv x) rfl rfl _ _ gq (by show 0+13≤13;decide) frame_size (nY x) ?_)
      intro w6 hh hl;have fx6:aA w6 (wr.heap.size+1) (vv x) 81:=by have e2:=iF (#[.int .u8 0,.int .u8 0,.int .u8 0,.int .u8 0,.int .u8 0,.int .u8 0,.int .u8 0,.int .u8 0,.int .i64 0,.bool false,.bool false,.int .i64 0,.int .i64 0]) (vv x) rfl;rw[←e2];exact hh
      have ix6:aA w6 wr.heap.size #[.int .i64 (k:Int)] 3:=kA.grown hl (fun e=>by have:=aJ e;omega);have hS:=kf.grown hl kf.size (fun k hk=>by cases hk;omega);have q:=ae o hS;have bx6:=bx.ext hS;have z:IB w6 gh _:=aA.ext d hS;have hc:IB w6 gs _:=aA.ext b hS;obtain⟨gx,gg⟩:∃g,g=wr.heap.size+1:=⟨_,rfl⟩;rw[←gg] at fx6 ⊢;rw[←gl] at ix6 ⊢;clear kT kf hS gH gG s kA gq h9 hl hh hf o bx d b e1 gk gX gg gl;go_upto_region 32 with (fail)
      by_cases c1:x.r=cnt (sG H.ma) k
      ·by_cases c2:0≤x.f
       ·skip;refine aK 19 [_,_,_,_,_,_,_,_,_,_,_,_,_,_,.v (.func (.func 71) #[] #[.pointer (some ⟨gi,0,none⟩)]),.v (.bool (H.ca.any (isK (k:Int)))),_,_,.v (.bool (!(H.ca.any (isK (k:Int)))))] (Gf gx 8 rfl rfl (Gl fx6 rfl rfl rfl rfl rfl (Gk rfl (Gl ix6 (V:=.int .i64 (k:Int)) rfl rfl rfl rfl rfl (Gr (.pointer (some ⟨gh,k,none⟩)) (fun ρ y W hb hF=>(Er rfl (aC rfl hF) (aC rfl hF) hkl underlying29 int_one)) rfl rfl (Gc (.int .i64 (cnt (sG H.ma) k:Int)) (fun W hb=>by simp[IB.cell (aA.ext z hb) (nR H.m.fs.length (sG H.ma) k hkl)]) rfl rfl rfl rfl (Gb (.bool false) (by simp[go_sem,c1]) rfl rfl rfl rfl rfl (Gk rfl (Gf gx 11 rfl rfl (Gl fx6 rfl rfl rfl rfl rfl (Gb (.bool true) (by simp[go_sem,c2]) rfl rfl rfl rfl rfl (Gk rfl (Gf w.heap.size 9 rfl rfl (Gl bx6 rfl rfl rfl rfl rfl (ag ?_ (ag ?_ (Gr (.bool (!(H.ca.any (isK (k:Int))))) (fun ρ y W hb hF=>ym rfl (aC rfl hF)) rfl rfl (Gk rfl (Gk rfl (aB)))))))))))))))))))) (fun _=>rfl) rfl ?_
        ·intro ρ y W hw hn hb hd;have g3:ρ (.tmp 15) = .pointer (some ⟨gi,0,none⟩):=(hn (.tmp 15) rfl).trans rfl;refine aj (.func (.func 71) #[] #[.pointer (some ⟨gi,0,none⟩)]) (aT 11 120 true true rfl rfl ((hw 120 11 rfl).trans (hd 11 rfl))) (by simp[execOp,go_sem,g3]) rfl
        ·intro ρ y W hw hn hb hd;have gJ:=hw 122 13 rfl;have g2:y 13=_:=hd 13 rfl;have gI:=hw 123 14 rfl;have g1:y 14=_:=hd 14 rfl;have EF:∀f,ρ (.func f) = .func (.func f) #[] #[]:=fun f=>hn (.func f) trivial;refine aL _ _ (aT 11 120 true true rfl rfl ((hw 120 11 rfl).trans (hd 11 rfl))) (aO rfl (EF _) func70 (by kernel_rfl) (by kernel_rfl) (by simp only[bH,bA,bB,gJ,g2,gI,g1,EF];rfl)) ?_;refine (Rw H.ca _ _ W ((h.below q).below hb).ca.rd (by omega) gi k (ix6.ext hb)).mono ?_;rintro r w1 ⟨rfl,kh⟩;exact⟨_,rfl,kh,rfl⟩
        intro y W7 a _;have hg:=ae q a;have bx7:=bx6.ext a;have hD:=aA.ext z a;have hB:=aA.ext hc a;clear a q bx6 z hc ix6 fx6;cases hA:H.ca.any (isK (k:Int)) with
        | true=>
         have hx:Hid (FV H.ma k=true):=Lib.hid (by rw[km.out,decide_eq_true c1,hA];simp);clear c1 c2;have ki:Hid (∀i,i<k+1→FV H.ma i=true):=Lib.hid fun i hi=>by
          by_cases e:i=k
          ·rw[e];exact hx.out
          ·exact hO.out i (by omega)
         go_wp2;go_roundw
         case rel=>exact⟨k+1,by omega,by go_num,hg,bx7,hD,hB,ki⟩
         case measure=>simp[intOf];omega
        | false=>
         have hx:Hid (FV H.ma k=false):=Lib.hid (by rw[km.out,decide_eq_true c1,hA,decide_eq_false (by omega)];rfl);clear c1 c2;have hq:Hid (jR H.ma=7):=Lib.hid (by rw[h3.out,if_neg];intro l;exact absurd (KQ l k hkl) (by rw[hx.out];decide));go_wp2;go_ret;rw[hq.out];exact⟨rfl,hg⟩
       have hx:Hid (FV H.ma k=true):=Lib.hid (by rw[km.out,decide_eq_true c1,decide_eq_true (by omega)];rfl);refine aK 19 [_,_,_,_,_,_,_,_,_,_,_,_,_,_,_,_,_,_,.v (.bool false)] (Gf gx 8 rfl rfl (Gl fx6 rfl rfl rfl rfl rfl (Gk rfl (Gl ix6 (V:=.int .i64 (k:Int)) rfl rfl rfl rfl rfl (Gr (.pointer (some ⟨gh,k,none⟩)) (fun ρ y W hb hF=>(Er rfl (aC rfl hF) (aC rfl hF) hkl underlying29 int_one)) rfl rfl (Gc (.int .i64 (cnt (sG H.ma) k:Int)) (fun W hb=>by simp[IB.cell (aA.ext z hb) (nR H.m.fs.length (sG H.ma) k hkl)]) rfl rfl rfl rfl (Gb (.bool false) (by simp[go_sem,c1]) rfl rfl rfl rfl rfl (Gk rfl (Gf gx 11 rfl rfl (Gl fx6 rfl rfl rfl rfl rfl (Gb (.bool false) (by simp[go_sem,c2]) rfl rfl rfl rfl rfl (Gk rfl (Gk rfl (Gk rfl (Gk rfl (Gk rfl (Gk rfl (Gk rfl (Gk rfl (aB)))))))))))))))))))) (fun _=>rfl) rfl ?_;intro y W7 a _;have hg:=ae q a;have bx7:=bx6.ext a;have hD:=aA.ext z a;have hB:=aA.ext hc a;clear a q bx6 z hc ix6 fx6;clear c1 c2;have ki:Hid (∀i,i<k+1→FV H.ma i=true):=Lib.hid fun i hi=>by
        by_cases e:i=k
        ·rw[e];exact hx.out
        ·exact hO.out i (by omega)
       go_wp2;go_roundw
       case rel=>exact⟨k+1,by omega,by go_num,hg,bx7,hD,hB,ki⟩
       case measure=>simp[intOf];omega
      have hx:Hid (FV H.ma k=false):=Lib.hid (by rw[km.out,decide_eq_false c1];rfl);refine aK 19 [_,_,_,_,_,_,_,_,_,_,_,_,_,_,_,_,_,_,.v (.bool true)] (Gf gx 8 rfl rfl (Gl fx6 rfl rfl rfl rfl rfl (Gk rfl (Gl ix6 (V:=.int .i64 (k:Int)) rfl rfl rfl rfl rfl (Gr (.pointer (some ⟨gh,k,none⟩)) (fun ρ y W hb hF=>(Er rfl (aC rfl hF) (aC rfl hF) hkl underlying29 int_one)) rfl rfl (Gc (.int .i64 (cnt (sG H.ma) k:Int)) (fun W hb=>by simp[IB.cell (aA.ext z hb) (nR H.m.fs.length (sG H.ma) k hkl)]) rfl rfl rfl rfl (Gb (.bool true) (by simp[go_sem,c1]) rfl rfl rfl rfl rfl (Gk rfl (Gk rfl (Gk rfl (Gk rfl (Gk rfl (Gk rfl (Gk rfl (Gk rfl (Gk rfl (Gk rfl (Gk rfl (Gk rfl (aB)))))))))))))))))))) (fun _=>rfl) rfl ?_;intro y W7 a _;have hg:=ae q a;have bx7:=bx6.ext a;have hD:=aA.ext z a;have hB:=aA.ext hc a;clear a q bx6 z hc ix6 fx6;clear c1;have hq:Hid (jR H.ma=7):=Lib.hid (by rw[h3.out,if_neg];intro l;exact absurd (KQ l k hkl) (by rw[hx.out];decide));go_wp2;go_ret;rw[hq.out];exact⟨rfl,hg⟩
     have kO:¬(k:Int)<(H.m.fs.length:Int):=by omega
     have gN:=(h.below o).sl;have gy:dI wr (some ⟨gs,0,none⟩) ((ky H.sl.length (qd H.ma)).map gB):=fun i u hi=>⟨gs,0,rfl,by rw[dZ,aA.cell b];simpa using hi⟩;have l:=bx.cell;unfold bS at l;have kN:=Lib.hid (mG H.sl.length (qd H.ma));have hq:Hid (jR H.ma=if H.sl=ky H.sl.length (qd H.ma) then 0 else 7):=Lib.hid (by
      rw[h3.out,KT,dF.2 (fun i hi=>hO.out i (by have:=dG.1 hi;have e:H.ma.m.fs.length=H.m.fs.length:=rfl;omega)),lh];show (if decide (H.sl=ky H.sl.length (qd H.ma))=true then (0:Int) else 7)=_
      by_cases e:H.sl=ky H.sl.length (qd H.ma)
      ·rw[if_pos e,if_pos (decide_eq_true e)]
      ·rw[if_neg e,if_neg (by simp[e])])
     have gL:=n2;generalize hC:ky H.sl.length (qd H.ma)=C at *
     clear hO h3 hC
     go_wp2_with fail
     rw[show (Value.slice (some ⟨gs,0,none⟩) H.sl.length H.sl.length) = .slice (some ⟨gs,0,none⟩) C.length H.sl.length from by rw[kN.out]];refine (Ky H.sl C H.asl (some ⟨gs,0,none⟩) H.csl H.sl.length _ gN.rd gy (by omega) (by rw[kN.out];omega)).mono ?_;rintro r w5 ⟨rfl,s⟩
     by_cases e:H.sl=C
     ·rw[show (H.sl==C)=true from by rw[beq_iff_eq];exact e];have kH:Hid (jR H.ma=0):=Lib.hid (by rw[hq.out,if_pos e]);clear e l;go_wp2;go_ret;rw[kH.out];exact⟨rfl,ae o s⟩
     rw[show (H.sl==C)=false from by rw[beq_eq_false_iff_ne];exact e];have kH:Hid (jR H.ma=7):=Lib.hid (by rw[hq.out,if_neg e]);clear e l;go_wp2;go_ret;rw[kH.out];exact⟨rfl,ae o s⟩
end Go.Proofs.YtjkkoeijlhfneaaGreat
namespace Pw
open Go Go.RowKit
variable {P:Program} {Q:Exit → Act → World → Prop} {a0:Act} {i id:Nat} {o:Oper} {ops:Array Oper} {v:Value} {w w0:World}
theorem wp_mono' {a:Act} {K K' : Act→World→Prop} (h:∀v D w,K (Act.put { a with defers:=D } o.dst v) w→K' (Act.put { a with defers:=D } o.dst v) w)
 (hh:o.wp P a w K Q):o.wp P a w K' Q:=by
 unfold Oper.wp at *
 generalize (execOp a.eval o).run P w=r at *
 cases r with
 | ok n w'=>
  cases n<;>simp only[Oper.upon] at hh ⊢ <;>
   first
    | exact h _ a.defers _ hh
    | exact h _ _ _ hh
    | exact xG hh (fun e w'' he=>by cases e<;>first | exact h _ a.defers _ he | exact he)
    | exact Rows.mono hh (fun _ _ he=>h _ a.defers _ he)
 | halt x w'=>cases x<;>simp only[Oper.upon] at hh ⊢<;>exact hh
def Be (v:Value) (o:Oper):Oper:={ o with op:=.move (.const v) }
def freed (ops:Array Oper) (p:Nat) (v:Value):Array Oper:=ops.modify p (Be v)
theorem Bp (ops:Array Oper) (p:Nat) (v:Value) (i:Nat):(freed ops p v)[i]?=if p=i then (ops[i]?).map (Be v) else ops[i]?:=by
 unfold freed;rw[Array.getElem?_modify]
theorem DX (ops:Array Oper) (p:Nat) (v:Value):(freed ops p v).size=ops.size:=by unfold freed;simp
theorem Cn (ops:Array Oper) (p:Nat) (v:Value) (listed:Array Bool):Region.ready .any (freed ops p v) listed=Region.ready .any ops listed:=by
 unfold Region.ready;rw[DX];apply List.filter_congr;intro i _;congr 1;rw[Bp]
 by_cases e:p=i
 ·rw[if_pos e];cases ops[i]?<;>rfl
 ·rw[if_neg e]
theorem FL (ops:Array Oper) (p:Nat) (v:Value) (ts:Array Value):yielded (freed ops p v) ts=yielded ops ts:=by
 funext g;unfold yielded;rw[Bp]
 by_cases e:p=g
 ·rw[if_pos e];cases ops[g]?<;>rfl
 ·rw[if_neg e]
def MK (ops:Array Oper) (p d:Nat):Bool:=
 (match ops[p]? with
  | some o=>(match o.op with
   | .move (.tmp t)=>decide (t=d)&&o.guard.isNone&&decide (o.dst≠some d)
   | _=>false)
  | none=>false) &&
 (List.range ops.size).all fun i=>match ops[i]? with
  | none=>true
  | some o=>decide (o.dst≠some d)||o.after.toList.any fun e=>decide (e.on=p)&&Region.binds .any e
theorem KX {a:Act} {D:List Deferred} {dst:Option Tmp} {d:Nat} (h:dst≠some d):(Act.put { a with defers:=D } dst v).eval (.tmp d)=a.eval (.tmp d):=by
 cases dst with
 | none=>rfl
 | some t=>
  have ht:t≠d:=fun e=>h (by rw[e]);simp[Act.put,Act.eval,Bb,ht]
theorem Nj {listed:Array Bool} (hi:i∈Region.ready .any ops listed) (ho:ops[i]?=some o):listed.getD i false=false∧∀e∈o.after,Region.binds .any e=true→listed.getD e.on false=true:=by
 obtain⟨h1,o',a,h2⟩:=mem_ready.1 hi;rw[ho] at a;cases a;refine⟨?_,h2⟩;rw[bT] at h1 ⊢;cases h:listed[i]? with
 | none=>rfl
 | some b=>rw[h] at h1;exact h1
theorem zM {P:Program} {ops:Array Oper} {Q:Exit→Act→World→Prop} {p d:Nat} {v:Value} (hok0:MK ops p d=true):∀(fuel:Nat) (listed:Array Bool) (a:Act) (w:World),(listed.getD p false=false→a.eval (.tmp d)=v)→wpAny P .any (freed ops p v) Q fuel listed a w→wpAny P .any ops Q fuel listed a w
 | 0,listed,a,w,hI,h=>by unfold wpAny at h ⊢;rw[Cn] at h;exact h
 | fuel+1,listed,a,w,hI,h=>by
  unfold wpAny at h ⊢;rw[Cn] at h;refine⟨h.1,fun i hi => ?_⟩;have hw:=h.2 i hi;have hup:(listed.setIfInBounds i true).getD p false=false→listed.getD p false=false:=fun h'=>by
   cases hl:listed.getD p false with
   | false=>rfl
   | true=>
    exfalso
    by_cases hs:i<listed.size
    ·rw[yz hs p hl] at h'; cases h'
    have e:listed.setIfInBounds i true=listed:=by rw[Array.setIfInBounds_eq_of_size_le (by omega)]
    rw[e,hl] at h'; cases h'
  have hok:=hok0;unfold MK at hok;rw[dU] at hok;obtain⟨hp,hall⟩:=hok;unfold wpOp at hw ⊢;rw[Bp,FL] at hw;cases ho:ops[i]? with
  | none=>
   rw[ho] at hw;have hw' : wpAny P .any (freed ops p v) Q fuel (listed.setIfInBounds i true) a w:=by
    by_cases e:p=i
    ·rw[if_pos e] at hw;exact hw
    ·rw[if_neg e] at hw;exact hw
   exact zM hok0 fuel _ a w (fun h'=>hI (hup h')) hw'
  | some o=>
   rw[ho] at hw;have hilt:i<ops.size:=(iB.1 ho).1;have hedge:=Nj hi ho
   by_cases e:p=i
   ·subst e;rw[if_pos rfl] at hw;simp only[qY] at hw;rw[ho] at hp;simp only at hp;cases hop:o.op with
    | move x=>
     rw[hop] at hp;cases x with
     | tmp t=>
      simp only[dU,decide_eq_true_eq] at hp;obtain⟨⟨rfl,hg⟩,hdst⟩:=hp;have hev:a.eval (.tmp t)=v:=hI hedge.1;have hex:execOp a.eval (Be v o)=execOp a.eval o:=by unfold execOp Be;simp only[hop];rw[hev];rfl
      have hnext:∀(v' : Value) (D:List Deferred) (w:World),wpAny P .any (freed ops p v) Q fuel (listed.setIfInBounds p true) (Act.put { a with defers:=D } o.dst v') w→wpAny P .any ops Q fuel (listed.setIfInBounds p true) (Act.put { a with defers:=D } o.dst v') w:=
       fun v' D w hh=>zM hok0 fuel _ _ w (fun _=>by rw[KX hdst];exact hev) hh
      simp only;have hwt:Region.wanted (Be v o) (yielded ops a.tmps)=Region.wanted o (yielded ops a.tmps):=rfl;rw[hwt] at hw;split
      ·rename_i hwant;rw[if_pos hwant] at hw;rcases hw with hw|hw
       ·refine .inl (wp_mono' hnext ?_);unfold Oper.wp at hw ⊢;rw[←hex];exact hw
       refine .inr ⟨?_,hw.2⟩;have:=hw.1;unfold Oper.asks at this ⊢;rw[←hex];exact this
      rename_i hwant;rw[if_neg hwant] at hw;exact hnext undef a.defers w hw
     | _=>cases hp
    | _=>rw[hop] at hp;cases hp
   rw[if_neg e] at hw;simp only at hw ⊢;have ho2:=dF.1 hall i (dG.2 hilt);rw[ho] at ho2;simp only[uG,decide_eq_true_eq] at ho2;have hnext:∀(v' : Value) (D:List Deferred) (w:World),wpAny P .any (freed ops p v) Q fuel (listed.setIfInBounds i true) (Act.put { a with defers:=D } o.dst v') w→wpAny P .any ops Q fuel (listed.setIfInBounds i true) (Act.put { a with defers:=D } o.dst v') w:=by
    intro v' D w hh;refine zM hok0 fuel _ _ w (fun h' => ?_) hh;rcases ho2 with h2|h2
    ·rw[KX h2];exact hI (hup h')
    rw[je] at h2;obtain⟨e',he',h3⟩:=h2;rw[dU,decide_eq_true_eq] at h3;have:=hedge.2 e' (mV.1 he') h3.2;rw[h3.1] at this;rw[hup h'] at this;cases this
   split
   ·rename_i hwant;rw[if_pos hwant] at hw;exact hw.imp (wp_mono' hnext) id
   rename_i hwant;rw[if_neg hwant] at hw;exact hnext undef a.defers w hw
def freedL:List Oper→Nat→Value→List Oper
 | [],_,_=>[]
 | o::r,0,v=>Be v o::r
 | o::r,k+1,v=>o::freedL r k v
theorem ED (v:Value):∀(l:List Oper) (p:Nat),l.modify p (Be v)=freedL l p v
 | [],p=>by cases p<;>rfl
 | o::r,0=>rfl
 | o::r,k+1=>by rw[List.modify_succ_cons,ED v r k];rfl
theorem QX (l:List Oper) (p:Nat) (v:Value):freed ⟨l⟩ p v=⟨freedL l p v⟩:=by
 unfold freed;rw[←ED];simp
theorem Od {l:List Oper} (p d:Nat) (v0:Value) (hm:P.follows .mixedOrders=true) (hf:MK ⟨l⟩ p d=true) (hv:a0.eval (.tmp d)=v0)
 (h:∀ops:Array Oper,ops=(freedL l p v0).toArray→wpAny P .any ops Q ops.size (Array.replicate ops.size false) a0 { w0 with drawn:=w0.drawn+1 }) :
  (Code.region id ⟨l⟩ true).wp P Q a0 w0:=by
 have h:=h _ rfl;rw[show (freedL l p v0).toArray=freed ⟨l⟩ p v0 from (QX l p v0).symm,DX] at h;exact wp_region_any hm (zM hf _ _ _ _ (fun _=>hv) h)
end Pw
namespace Go.Proofs.YtjkkoeijlhfneaaGreat
open _root_.Go.Proofs.Tryz
open Go.RowKit Go.Maps Pw
variable {B B' b c n sz:Nat} {H:MH} {T:TypeId} {a:Option Addr} {cs:Array Value} {ps:List PF} {v:Value} {w w':World} {xs ys:List Value}
theorem IK (l:List Cc) (a:Option Addr) (c:Nat) (w:World) (hle:l.length≤c) (hnil:a=none→c=0) (hrd:dI w a (l.flatMap mE)) (hb:l.length*24≤140737488355328) :
  Calls Tryz.prog 76 #[.slice a l.length c] w fun e w' => ∃v,e = .returned v∧Own w' w.heap.size 106 3 v l.length (l.flatMap mE)∧Below w.heap.size w w':=by
 cases a with
 | none=>
  have h0:=hnil rfl;have hl:l=[]:=jW (by omega);subst hl;subst h0;have hq:=fun W=>mD (P:=Tryz.prog) W 38 _ none 0 0 0 0 underlying38;go_enter func76,ntmps76;go_wp2;go_ret;exact⟨_,rfl,by simpa using Own.nil _ _ _ _,Below.refl _ _⟩
 | some ad=>
  have hq:=fun W=>mD (P:=Tryz.prog) W 38 _ (some ad) l.length c 0 0 underlying38;go_enter func76,ntmps76
  go_wp2_with (at_builtin;go_must (refine fe rfl _ _ 38 rfl w.heap.size 106 (.agg #[.int .i64 0,.int .i64 0,.int .i64 0]) 3 24 underlying38 cached_info rfl (by decide) _ 0 [] rfl ?own (some ad) l.length c (l.flatMap mE) rfl (fun h=>(by cases h)) hle (mU l) ?rd (Jm l) (by unfold maxLen;omega) (by simpa using hb) ?bb ?k))
  case own=>exact⟨rfl,.inr ⟨w.heap.size,0,0,#[],rfl,az _,aA.new _ _ _,az _,aW _,by simp,fun j u h=>by simp at h⟩⟩
  case rd=>exact hrd.below ((Below.refl _ _).alloc (az _) _)
  case bb=>exact gH _ _
  intro v w1 b d;go_wp2;go_ret;exact⟨v,rfl,by simpa using b,((Below.refl _ _).alloc (az _) _).grown d (gH _ _) (fun k hk=>by cases hk;exact az _)⟩
theorem Ra.fsz (h:Ra H.ma):Uw H.fi:=by
 have h1:(H.fi.map PF.fi).length≤1000:=h.st.1;rw[eH] at h1;refine⟨by omega,fun p hp => ?_⟩;have:=h.st.2 p.fi (fP.2 ⟨p,hp,rfl⟩);have e:p.fi.b.length=p.l.length:=rfl;omega
theorem Ra.spz (h:Ra H.ma) {p:PS} (hp:p∈H.sp):p.ar.length≤1000∧FC p.tb:=by
 obtain⟨h1,h2⟩:=h.sp.2 p.sp (fP.2 ⟨p,hp,rfl⟩);exact⟨h1,fun k hk=>by have:=h2 k hk;have e:p.sp.tb[k].length=p.tb[k].length:=rfl;omega⟩
def vR (w:World) (B:Nat) (p:PS) (s:Sp):Prop:=p.sp=s∧Own w B 99 7 (.slice p.aa p.ar.length p.ac) p.ar.length (p.ar.flatMap mP)∧qZ w B (nG p.ts) p.tb
theorem vR.below {p:PS} {s:Sp} (h:vR w B p s) (hb:Below w.heap.size w w'):vR w' B p s:=⟨h.1,h.2.1.below hb,h.2.2.below hb⟩
def VY (B:Nat) (s:Sp):lT:=⟨fun v w => ∃p,v = .agg (uM p)∧vR w B p s,fun _ _ _ hb ⟨p,h1,h2⟩=>⟨p,h1,h2.below hb⟩⟩
def WQ (B:Nat) (s:Sp):lT:=⟨fun v w => ∃g p,v = .slice (some ⟨g,0,none⟩) 1 1∧dI w (some ⟨g,0,none⟩) (uj p)∧vR w B p s,fun _ _ _ hb ⟨g,p,h1,h2,h3⟩=>⟨g,p,h1,h2.below hb,h3.below hb⟩⟩
theorem Ud {p:PS} {s:Sp} (h:vR w B p s):∀u∈uj p,u.oneCell' = true:=by
 have h1:=h.2.2.rd.one;rw[←jr,dF] at h1;intro u hu;simp only[uj,uM,bU,fZ,or_false] at hu;simp only[nG,bU,fZ,or_false] at h1;rcases hu with rfl|rfl|hu
 ·rfl
 ·rfl
 ·exact h1 u hu
theorem caO_size:(Tryz.prog.info? 38).map (·.size)=some 1:=by kernel_rfl
theorem Oy (ho:Own w B 55 10 (.slice a n c) n xs) (hg:w.grownBy w' (Value.slice a n c).ownBlock) :
  w.grownBy w' none∨∃g cs,aA w g cs 55∧B≤g∧w.grownBy w' (some g):=by
 cases hr:(Value.slice a n c).ownBlock with
 | none=>rw[hr] at hg;exact .inl hg
 | some g=>
  rw[hr] at hg;obtain⟨cs,hb⟩:=kW ho g hr;exact .inr ⟨g,cs,hb,ho.ge g hr,hg⟩
theorem iP {m:Nat} (ho:Own w B 55 10 (.slice a n c) n xs) (hg:w.grownBy w' (Value.slice a n c).ownBlock) (h:Own w B' T sz v m ys) (hT:T≠55):Own w' B' T sz v m ys:=by
 rcases Oy ho hg with h1|⟨g,cs,hb,_,h1⟩
 ·exact kG h h1
 ·exact ak h hb (fun e=>hT e.symm) h1
theorem AR (ho:Own w B 55 10 (.slice a n c) n xs) (hg:w.grownBy w' (Value.slice a n c).ownBlock) (h:aA w b cs T) (hT:T≠55):aA w' b cs T:=by
 rcases Oy ho hg with h1|⟨g,cs',hb,_,h1⟩
 ·exact h.grown h1 (fun e=>by cases e)
 ·exact h.grown h1 (fun e=>mo h hb hT (aJ e).symm)
theorem UC (ho:Own w B 55 10 (.slice a n c) n xs) (hg:w.grownBy w' (Value.slice a n c).ownBlock) (h:nM w B' v ps):nM w' B' v ps:=
 ⟨iP ho hg h.own (by decide),fun i p hp=>iP ho hg (h.each i p hp) (by decide),h.apart⟩
theorem CR {t:Tb} (ho:Own w B 55 10 (.slice a n c) n xs) (hg:w.grownBy w' (Value.slice a n c).ownBlock) (h:qZ w B' cs t):qZ w' B' cs t:=
 ⟨h.sz,fun k hk=>by obtain⟨v,h1,h2⟩:=h.own k hk;exact⟨v,h1,iP ho hg h2 (by decide)⟩,h.apart⟩
theorem mach_size:(Tryz.prog.info? 41).map (·.size)=some 11:=by kernel_rfl
theorem slsp_size:(Tryz.prog.info? 39).map (·.size)=some 1:=by kernel_rfl
end Go.Proofs.YtjkkoeijlhfneaaGreat