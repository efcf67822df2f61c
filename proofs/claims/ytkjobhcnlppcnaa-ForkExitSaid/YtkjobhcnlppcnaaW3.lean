import Derived.Test.YtkjobhcnlppcnaaW2
import Derived.BigRegion
import Derived.BigQuiet
import Derived.Deep.OwnRows
import Derived.Deep.DeepCutAuto
set_option linter.unusedSimpArgs false
set_option linter.unusedVariables false
set_option maxHeartbeats 4000000
set_option maxRecDepth 100000
namespace Go.Proofs.Ytkjobhcnlppcnaa
open Go.RowKit Go.Maps Pw
theorem fE {α:Type} {enc:α→List Value} {sz:Nat} (hsz:∀x,(enc x).length=sz) (hp:0<sz) {w:World} {a:Option Addr} {l:List α} (h:bZ w a (l.flatMap enc)) (k:Nat) (hk:k<l.length) :
  ∃b off,a=some ⟨b,off,none⟩∧bZ w (some ⟨b,off+k*sz,none⟩) (enc l[k]):=by
 obtain⟨b,off,ha,hc⟩:=h.elem hsz hp k hk
 exact⟨b,off,ha,fun j u hj=>⟨b,off+k*sz,rfl,hc j u hj⟩⟩
theorem bG {w:World} {b:Nat} {cs:Array Value} {T:TypeId} (h:aB w b cs T) (o n:Nat):bZ w (some ⟨b,o,none⟩) ((cs.toList.drop o).take n):=by
 intro i u hi
 refine⟨b,o,rfl,?_⟩
 rw[h.cell,←Array.getElem?_toList]
 rw[List.getElem?_take] at hi
 split at hi
 ·rw[List.getElem?_drop] at hi;exact hi
 ·cases hi
def qm (H:MH) (e:Int):Array Value:=#[.slice H.af H.m.fs.length H.cf,.int .i64 H.m.hand,.slice H.asl H.sl.length H.csl,.slice H.wb H.sw.blocks.length H.cwb,.slice H.wq H.sw.queue.length H.cwq,
 .slice H.db H.dk.blocks.length H.cdb,.slice H.dq H.dk.queue.length H.cdq,.slice H.ai H.fi.length H.ci,.int .i64 H.ct,.slice H.ac H.ca.length H.cc,.slice H.ap H.sp.length H.cp,.int .i64 e]
def oB (a:Option Addr):Option Nat:=(Value.slice a 0 0).ownBlock
theorem iw (a:Option Addr) (n c:Nat):(Value.slice a n c).ownBlock=oB a:=by cases a<;>rfl
structure jL (w:World) (B b:Nat) (H:MH) (e:Int):Prop where
 blk:aB w b (qm H e) 143
 ge:B≤b
 ma:qW w B H
 tz:∀p∈H.sp,tH p.tb
def kb (b:Nat) (H:MH) (x:Nat):Prop:=x=b∨oB H.af=some x∨oB H.ac=some x∨oB H.ap=some x
structure KS (w0:World) (b:Nat) (H0:MH) (w:World) (H:MH):Prop where
 os:w.os=w0.os
 tape:w.tape=w0.tape
 output:w.output=w0.output
 size:w0.heap.size≤w.heap.size
 keep:∀x,x<w0.heap.size→¬kb b H0 x→w.heap[x]?=w0.heap[x]?
 sn:∀x,kb b H x→kb b H0 x∨w0.heap.size≤x
theorem KS.refl (w:World) (b:Nat) (H:MH):KS w b H w H:=⟨rfl,rfl,rfl,Nat.le_refl _,fun _ _ _=>rfl,fun _ h => .inl h⟩
theorem KS.trans {w0 w1 w2:World} {b:Nat} {H0 H1 H2:MH} (h:KS w0 b H0 w1 H1) (k:KS w1 b H1 w2 H2):KS w0 b H0 w2 H2:=
 ⟨k.os.trans h.os,k.tape.trans h.tape,k.output.trans h.output,Nat.le_trans h.size k.size,fun x hx hn=>(k.keep x (Nat.lt_of_lt_of_le hx h.size) (fun hk=>(h.sn x hk).elim hn (fun hh=>absurd hx (Nat.not_lt.2 hh)))).trans (h.keep x hx hn),
  fun x hx=>(k.sn x hx).elim (h.sn x) (fun hh => .inr (Nat.le_trans h.size hh))⟩
theorem KS.below {w0 w w' : World} {b:Nat} {H0 H:MH} (h:KS w0 b H0 w H) (hb:Below w.heap.size w w'):KS w0 b H0 w' H:=
 ⟨hb.os.trans h.os,hb.tape.trans h.tape,hb.output.trans h.output,Nat.le_trans h.size hb.size,fun x hx hn=>(hb.block x (Nat.lt_of_lt_of_le hx h.size)).trans (h.keep x hx hn),h.sn⟩
theorem KS.put {w0 w w' : World} {b y:Nat} {H0 H H' : MH} (h:KS w0 b H0 w H) (hg:w.grownBy w' (some y)) (hy:kb b H y) (hn:∀x,kb b H' x→kb b H x∨w0.heap.size≤x):KS w0 b H0 w' H':=
 ⟨hg.os.trans h.os,hg.tape.trans h.tape,hg.output.trans h.output,Nat.le_trans h.size hg.size,fun x hx hnx=>(hg.block x (Nat.lt_of_lt_of_le hx h.size) (fun e=>by
  have e' : x=y:=Option.some.inj e
  rw[←e'] at hy
  exact (h.sn x hy).elim hnx (fun hh=>absurd hx (Nat.not_lt.2 hh)))).trans (h.keep x hx hnx),fun x hx=>(hn x hx).elim (h.sn x) .inr⟩
theorem jL.lt {w:World} {B b:Nat} {H:MH} {e:Int} (h:jL w B b H e):b<w.heap.size:=h.blk.lt
theorem jL.bs {w:World} {B b:Nat} {H:MH} {e:Int} (h:jL w B b H e):B≤w.heap.size:=Nat.le_trans h.ge (Nat.le_of_lt h.lt)
theorem jL.below {w w' : World} {B b:Nat} {H:MH} {e:Int} (h:jL w B b H e) (hb:Below w.heap.size w w'):jL w' B b H e:=⟨h.blk.ext hb,h.ge,h.ma.below hb,h.tz⟩
theorem fe {w:World} {B:Nat} {e:TypeId} {sz n c:Nat} {a:Option Addr} {xs:List Value} (h:Own w B e sz (.slice a n c) n xs) {x:Nat} (hx:oB a=some x):B≤x∧∃cs,aB w x cs e:=by
 rw[←iw a n c] at hx
 exact⟨h.ge x hx,gL h x hx⟩
theorem jL.kb_ge {w:World} {B b:Nat} {H:MH} {e:Int} (h:jL w B b H e) {x:Nat} (hx:kb b H x):B≤x:=by
 rcases hx with hx|hx|hx|hx
 ·rw[hx];exact h.ge
 ·exact (fe h.ma.fr hx).1
 ·exact (fe h.ma.ca hx).1
 ·exact (fe h.ma.sp hx).1
theorem jL.kb_T {w:World} {B b:Nat} {H:MH} {e:Int} (h:jL w B b H e) {x:Nat} (hx:kb b H x):∃cs T,aB w x cs T∧(T=143∨T=59∨T=85∨T=65):=by
 rcases hx with hx|hx|hx|hx
 ·rw[hx];exact⟨_,_,h.blk,.inl rfl⟩
 ·obtain⟨cs,hb⟩:=(fe h.ma.fr hx).2;exact⟨cs,_,hb,.inr (.inl rfl)⟩
 ·obtain⟨cs,hb⟩:=(fe h.ma.ca hx).2;exact⟨cs,_,hb,.inr (.inr (.inl rfl))⟩
 ·obtain⟨cs,hb⟩:=(fe h.ma.sp hx).2;exact⟨cs,_,hb,.inr (.inr (.inr rfl))⟩
theorem KS.to {w0 w:World} {B B0 b:Nat} {H0 H:MH} {e:Int} (h:jL w0 B b H0 e) (hs:KS w0 b H0 w H) (hB:B0≤B):Below B0 w0 w:=
 ⟨hs.os,hs.tape,hs.output,hs.size,fun x hx=>hs.keep x (by have:=h.bs;omega) (fun hk=>by have:=h.kb_ge hk;omega)⟩
theorem KS.blk {w0 w:World} {B b x:Nat} {H0 H:MH} {e:Int} {cs:Array Value} {T:TypeId} (hs:KS w0 b H0 w H) (h:jL w0 B b H0 e) (hk:aB w0 x cs T) (hT:T≠143∧T≠59∧T≠85∧T≠65):aB w x cs T:=by
 refine (hs.keep x hk.lt fun hx => ?_).trans hk
 obtain⟨cs',T',hb,h4⟩:=h.kb_T hx
 unfold aB at hk hb
 rw[hk] at hb
 simp only[Option.some.injEq,Obj.cells.injEq] at hb
 obtain⟨t1,t2,t3,t4⟩:=hT
 rcases h4 with e|e|e|e
 ·exact t1 (hb.2.1.trans e)
 ·exact t2 (hb.2.1.trans e)
 ·exact t3 (hb.2.1.trans e)
 ·exact t4 (hb.2.1.trans e)
theorem KS.own {w0 w:World} {B B' b:Nat} {H0 H:MH} {e:Int} {t:TypeId} {sz n:Nat} {v:Value} {xs:List Value} (hs:KS w0 b H0 w H) (h:jL w0 B b H0 e) (ho:Own w0 B' t sz v n xs) (hT:t≠143∧t≠59∧t≠85∧t≠65):Own w B' t sz v n xs:=
 ⟨ho.1,ho.2.imp id fun⟨g,off,cap,cur,hv,hB,hk,r⟩=>⟨g,off,cap,cur,hv,hB,hs.blk h hk hT,r⟩⟩
theorem qW.keepK {w w' : World} {B b:Nat} {H:MH} {e:Int} (h:jL w B b H e) (hg:w.grownBy w' (some b)):qW w' B H:=h.ma.keep h.blk (by decide) hg
theorem jL.setM {w w' : World} {B b:Nat} {H:MH} {e:Int} (h:jL w B b H e) {a:Option Addr} {c:Nat} {m:Mem} (ho:Own w B 59 13 (.slice a m.fs.length c) m.fs.length (m.fs.flatMap ng)) (hb:aB w' b (putAt (qm H e) 0 [.slice a m.fs.length c,.int .i64 m.hand]) 143) (hg:w.grownBy w' (some b)) :
  jL w' B b { H with af:=a,cf:=c,m:=m } e:=
 ⟨hb,h.ge,{ qW.keepK h hg with fr:=aj ho h.blk (by decide) hg },h.tz⟩
theorem jL.setL {w w' : World} {B b:Nat} {H:MH} {e:Int} (h:jL w B b H e) {a:Option Addr} {c:Nat} {l:List Int} (ho:Own w B 3 1 (.slice a l.length c) l.length (l.map dE)) (hb:aB w' b (putAt (qm H e) 2 [.slice a l.length c]) 143) (hg:w.grownBy w' (some b)) :
  jL w' B b { H with asl:=a,csl:=c,sl:=l } e:=
 ⟨hb,h.ge,{ qW.keepK h hg with sl:=aj ho h.blk (by decide) hg },h.tz⟩
theorem jL.setE {w w' : World} {B b:Nat} {H:MH} {e e' : Int} (h:jL w B b H e) (hb:aB w' b (putAt (qm H e) 11 [.int .i64 e']) 143) (hg:w.grownBy w' (some b)):jL w' B b H e':=
 ⟨hb,h.ge,qW.keepK h hg,h.tz⟩
def KR (w:World) (B b:Nat) (H:MH) (w' : World) (k:Kp):Prop:=∃H' e',jL w' B b H' e'∧KS w b H w' H'∧Kp.mk H'.ma e' = k
theorem DR {b:Nat} {H H' : MH} (h1:H'.af=H.af) (h2:H'.ac=H.ac) (h3:H'.ap=H.ap) {x:Nat} (hx:kb b H' x):kb b H x:=by
 unfold kb at hx ⊢; rw[h1,h2,h3] at hx;exact hx
theorem KS.putB {w0 w w' : World} {b:Nat} {H0 H H' : MH} (h:KS w0 b H0 w H) (hg:w.grownBy w' (some b)) (h1:H'.af=H.af) (h2:H'.ac=H.ac) (h3:H'.ap=H.ap):KS w0 b H0 w' H':=
 h.put hg (.inl rfl) fun x hx => .inl (DR h1 h2 h3 hx)
theorem KS.putF {w0 w w' : World} {B' b:Nat} {H0 H H' : MH} {t:TypeId} {sz n c:Nat} {xs:List Value} (h:KS w0 b H0 w H) (hg:w.grownBy w' (some b)) (ho:Own w B' t sz (.slice H'.af n c) n xs) (hB:w0.heap.size≤B') (h2:H'.ac=H.ac) (h3:H'.ap=H.ap):KS w0 b H0 w' H':=
 h.put hg (.inl rfl) fun x hx=>by
  rcases hx with hx|hx|hx|hx
  ·exact .inl (.inl hx)
  ·exact .inr (Nat.le_trans hB (fe ho hx).1)
  ·exact .inl (.inr (.inr (.inl (by rw[←h2];exact hx))))
  ·exact .inl (.inr (.inr (.inr (by rw[←h3];exact hx))))
theorem Db {w w1 w2:World} {row:Option Nat} (hb:Below w.heap.size w w1) (hg:w1.grownBy w2 row):w.grownBy w2 row:=
 ⟨hg.os.trans hb.os,hg.tape.trans hb.tape,hg.output.trans hb.output,Nat.le_trans hb.size hg.size,fun k hk hn=>(hg.block k (Nat.lt_of_lt_of_le hk hb.size) hn).trans (hb.block k hk)⟩
def Mm (k B:Nat) (T:TypeId) (R:iF):nS:=⟨fun y w => ∃g cc,y k = .pointer (some ⟨g,0,none⟩)∧B≤g∧aB w g cc T∧R.r (.agg cc) w,[k],
 fun y w w' hb ⟨g,cc,h1,h2,h3,h4⟩=>⟨g,cc,h1,h2,h3.ext hb,R.st _ _ _ hb h4⟩,fun y y' w h ⟨g,cc,h1,h2⟩=>⟨g,cc,by rw[←h k (List.mem_singleton.2 rfl)];exact h1,h2⟩⟩
theorem aY {cs:Array Value} (h:cs.all (·.oneCell')=true):∀u∈cs.toList,u.oneCell' = true:=by
 rw[←Array.all_toList,List.all_eq_true] at h
 exact h
theorem nK (H:MH):H.ma.sp.length=H.sp.length:=List.length_map _
theorem Fz : (Try.prog.info? 93).map (·.size)=some 9:=by kernel_rfl
def xL (f:Int→Bool) (q:Int × Page):Bool:=!(f q.1)
theorem CL (q:Int × Page) (g gm n:Nat) (f:Int→Bool) (w:World) (hg:aB w g #[.map (some gm)] 178) (hM:jw w gm n f) (hq : -9223372036854775808≤q.1∧q.1≤9223372036854775807) :
  Calls Try.prog 113 #[.agg (Bq q),.pointer (some ⟨g,0,none⟩)] w fun r w'=>r = .returned (.bool (xL f q))∧Below w.heap.size w w':=by
 go_enter Try.func113,Try.ntmps113
 go_upto_region 1 with (fail)
 refine eP (fun W=>Code.wp _ _ _ _ W) fun W0 hb0 hx0 hs0 => ?_
 clear hs0
 have hgx:=(hg.ext hb0).cell 0
 have hcx:=hx0.cell
 have hlk:=(hM.below hb0).look q.1 hq
 have q0:(Bq q)[0]?=some (.int .i64 q.1):=rfl
 go_wp2
 go_ret
 exact⟨rfl,hb0⟩
theorem IQ {w:World} {a:Option Addr} {l:List (Int × Page)} (h:bZ w a (l.flatMap uI)) (k:Nat) (hk:k<l.length):∃b off,a=some ⟨b,off,none⟩∧bZ w (some ⟨b,off+k*9,none⟩) (uI l[k]):=fE sI (by decide) h k hk
theorem Dl (l:List (Int × Page)) (a:Option Addr) (c:Nat) (w:World) (hrd:bZ w a (l.flatMap uI)) (hl:l.length≤9223372036854775807) (g gm n:Nat) (f:Int→Bool) (hg:aB w g #[.map (some gm)] 178) (hM:jw w gm n f) (hq:∀q∈l,-9223372036854775808≤q.1∧q.1≤9223372036854775807) :
  Calls Try.prog 123 #[.slice a l.length c,.func (.func 113) #[] #[.pointer (some ⟨g,0,none⟩)]] w fun e w'=>e = .returned (.int .i64 (idx (xL f) l))∧Below w.heap.size w w':=by
 go_enter Try.func123,Try.ntmps123
 go_wp2
 go_loopw [8] (fun i wr => ∃k:Nat,k≤l.length∧i = .int .i64 k∧Below w.heap.size w wr∧∀i (h:i<l.length),i<k→(xL f) l[i]=false) (fun i _=>l.length-(intOf i).toNat)
 case atStart=>exact⟨0,Nat.zero_le _,rfl,Below.refl _ _,fun i _ h=>absurd h (Nat.not_lt_zero _)⟩
 case round=>
  obtain⟨k,hk,rfl,hbr,hp0⟩:=hrel
  have hp:=Lib.hid hp0
  clear hp0
  by_cases hlt:k<l.length
  ·obtain⟨b,off,rfl,hel⟩:=IQ (hrd.below hbr) k hlt
   go_wp2_with (refine ak _ _ rfl b (off+k*9) rfl rfl _ hel _ Try.underlying93 rfl Fz ?_)
   refine (CL l[k] g gm n f _ (hg.ext hbr) (hM.below hbr) (hq _ (List.getElem_mem hlt))).mono ?_
   rintro e w2 ⟨rfl,hb2⟩
   have hbel2:=ae hbr hb2
   clear hb2
   cases hpk:(xL f) l[k]
   ·have hpk':=Lib.hid hpk
    clear hpk
    go_wp2
    go_roundw
    case rel=>exact⟨k+1,by omega,by go_num,hbel2,jF hp.out hlt hpk'.out⟩
    case measure=>simp[intOf];omega
   ·have hfin:=Lib.hid (tV (xL f) l k hlt hp.out hpk)
    clear hpk
    go_wp2
    go_ret
    exact⟨aO hfin.out.symm,hbel2⟩
  ·have hfin:=Lib.hid (lI (xL f) l fun i h=>hp.out i h (by omega))
   go_wp2
   go_ret
   exact⟨aO hfin.out.symm,hbr⟩
theorem Cm (l:List (Int × Page)) (a:Option Addr) (c:Nat) (w:World) (hrd:bZ w a (l.flatMap uI)) (hl:l.length≤9223372036854775807) (g gm n:Nat) (f:Int→Bool) (hg:aB w g #[.map (some gm)] 178) (hM:jw w gm n f) (hq:∀q∈l,-9223372036854775808≤q.1∧q.1≤9223372036854775807) :
  Calls Try.prog 112 #[.slice a l.length c,.func (.func 113) #[] #[.pointer (some ⟨g,0,none⟩)]] w fun e w'=>e = .returned (.bool (l.any (xL f)))∧Below w.heap.size w w':=by
 go_enter Try.func112,Try.ntmps112
 go_wp2_with fail
 refine (Dl l a c _ hrd hl g gm n f hg hM hq).mono ?_
 rintro e w2 ⟨rfl,hb2⟩
 go_wp2
 go_ret
 exact⟨bK (kT _ _),hb2⟩
theorem IP {m:Ma} {k:Nat} (hk:k<m.dk.blocks.length) (h:(decide ((k:Int)∈jV m.st)||decide (m.dk.blocks.getD k zPg=zPg))=false):trimB m=false:=by
 unfold trimB
 rw[Bool.and_eq_false_iff]
 refine .inl (List.all_eq_false.2 ⟨k,List.mem_range.2 hk,?_⟩)
 rw[h];decide
theorem GK {m:Ma} (h:∀j:Nat,j<m.dk.blocks.length→(decide ((j:Int)∈jV m.st)||decide (m.dk.blocks.getD j zPg=zPg))=true):trimB m = !(m.dk.queue.any (xL (lQ (jV m.st)))):=by
 unfold trimB
 rw[List.all_eq_true.2 (fun j hj=>h j (List.mem_range.1 hj)),Bool.true_and,List.any_eq_not_all_not,Bool.not_not]
 congr 1
 funext q
 simp[xL,lQ]
theorem Ai (H:MH) (b:Nat) (w:World) (hb:aB w b (bM H) 40) (h:qV w H) (h0:aP (dW H.fi H.ct)=0) (hd:bD H.dk=0) :
  Calls Try.prog 81 #[.pointer (some ⟨b,0,none⟩)] w fun r w'=>r = .returned (.bool (trimB H.ma))∧Below w.heap.size w w':=by
 have hmm:=@run_makeMap Try.prog
 have hf5:H.fi.length≤5:=by simpa[dW] using (ky h0).1
 have hfl:Hid (∀p∈H.fi,p.l.length≤12∧∀x∈p.l,-1≤x∧x<80):=Lib.hid (fun p hp=>by
  obtain⟨h1,h2,h3,h4⟩:=rz h0 p.fi (List.mem_map.2 ⟨p,hp,rfl⟩)
  have h5:=sS (n:=p.fi.n) h2
  have h6:=(ky h0).2.2
  refine⟨by have h7:(p.l.length:Int)=dh p.fi.n:=h3;omega,fun x hx=>⟨(h4 x hx).1,by have:=(h4 x hx).2;omega⟩⟩)
 obtain⟨hd80,hq400⟩:=Ev hd
 have hqb:Hid (∀q∈H.dk.queue,-9223372036854775808≤q.1∧q.1≤9223372036854775807):=Lib.hid (fun q hq=>by
  obtain⟨i,hi,rfl⟩:=List.mem_iff_getElem.1 hq
  have:=FI hd i hi
  omega)
 have H0:=Lib.hid h0
 have HD:=Lib.hid hd
 clear h0 hd
 have hbk:=Lib.hid (uZ H.fi H.ct)
 go_enter Try.func81,Try.ntmps81
 go_upto_region 2 with (fail)
 refine eP (fun W=>Code.wp _ _ _ _ W) fun w2 hb2 hx2 hs2 => ?_
 have hbel2:Below w.heap.size w w2:=ae ((Below.refl _ _).alloc (Nat.le_refl _) _) hb2
 have hM2:jw w2 w.heap.size 0 (lQ (((H.fi.take 0).map PF.fi).flatMap Fi.b)):=(jw.made w).below hb2
 have hx2' : aB w2 (w.heap.size+1) #[.map (some w.heap.size)] 178:=by
  have e:(w.alloc (Obj.map #[] 0)).heap.size=w.heap.size+1:=Array.size_push _
  rw[e] at hx2;exact hx2
 obtain⟨gm,hGM⟩:∃g,g=w.heap.size:=⟨_,rfl⟩
 have hge:Hid (w.heap.size≤gm):=Lib.hid (by omega)
 rw[←hGM] at hM2 hx2' ⊢
 rw[←hGM] at hge
 have hgs:w.heap.size≤gm:=by omega
 clear hb2 hx2 hs2 hmm hGM hge
 have hbk2:=hb.ext hbel2
 have hcb:=hbk2.cell
 unfold bM at hcb
 have H5:(H.fi.length:Int)≤5:=by omega
 go_upto_region 3 with (fail)
 clear hcb hbk2
 go_loopw [17] (fun i wr => ∃(q n:Nat),q≤H.fi.length∧i = .int .i64 q∧n≤12*q∧Below w.heap.size w wr∧aB wr (gm+1) #[.map (some gm)] 178∧jw wr gm n (lQ (((H.fi.take q).map PF.fi).flatMap Fi.b))) (fun i _=>H.fi.length-(intOf i).toNat)
 case atStart=>exact⟨0,0,Nat.zero_le _,rfl,Nat.le_refl _,hbel2,hx2',hM2⟩
 case round=>
  clear hbel2 hx2' hM2
  obtain⟨q,n,hq,rfl,hn,hbr,hx,hM⟩:=hrel
  by_cases hlt:q<H.fi.length
  ·obtain⟨bf,of,hai,hrd⟩:=fE jY (by decide) (h.below hbr).st.rd q hlt
   obtain⟨p,hp⟩:∃p,H.fi[q]?=some p:=⟨_,List.getElem?_eq_getElem hlt⟩
   rw[show H.fi[q]=p from (List.getElem?_eq_some_iff.1 hp).2] at hrd
   have hgood:=(h.below hbr).st.good p (List.mem_of_getElem? hp)
   obtain⟨hp12,hpx⟩:=hfl.out p (List.mem_of_getElem? hp)
   have htk:=Lib.hid (take_at hp)
   have hqi:(q:Int)<(H.fi.length:Int):=by omega
   generalize hseen:((H.fi.take q).map PF.fi).flatMap Fi.b=seen at hM
   have hseen':=Lib.hid hseen
   have hpx':=Lib.hid hpx
   clear hseen hp hpx
   rw[hai]
   go_wp2_with (first | (refine ak _ _ rfl bf (of+q*2) rfl rfl _ hrd _ Try.underlying71 rfl file_size ?_) | (refine aD rfl _ _ _ rfl (jM p) rfl rfl rfl file_size (kr p) ?_))
   intro w3 hb3 fx3
   have hb13:=ae hbr hb3
   have hx3:=hx.ext hb3
   have hM3:=hM.below hb3
   have hg3:=hgood.below hb3
   have hwr:=Lib.hid hbr.size
   have hxl:=Lib.hid hx.lt
   clear hbr hx hM hb3 hrd hgood
   have hcf:=fx3.cell
   unfold jM at hcf
   have hM0:jw w3 gm n (lQ (seen++p.l.take 0)):=by simpa using hM3
   have hle:=hg3.le
   have hmx:=hg3.mx
   have hrp:=hg3.rd
   unfold maxLen at hmx
   clear hM3 hg3
   go_upto_region 6 with (fail)
   clear hcf fx3
   go_loopw [24] (fun i wr => ∃(j m:Nat),j≤p.l.length∧i = .int .i64 j∧m≤n+j∧Below w.heap.size w wr∧aB wr (gm+1) #[.map (some gm)] 178∧jw wr gm m (lQ (seen++p.l.take j))∧bZ wr p.a (p.l.map dE)) (fun i _=>p.l.length-(intOf i).toNat)
   case atStart=>exact⟨0,n,Nat.zero_le _,rfl,Nat.le_refl _,hb13,hx3,hM0,hrp⟩
   case round=>
    clear hb13 hx3 hM0 hrp
    obtain⟨j,m,hj,rfl,hm,hbr,hx,hM,hrp⟩:=hrel
    by_cases hjl:j<p.l.length
    ·obtain⟨x,hX⟩:∃x,p.l[j]?=some x:=⟨p.l[j],List.getElem?_eq_getElem hjl⟩
     obtain⟨b2,off2,hpa,hc⟩:=jo hrp j hjl
     rw[show p.l[j]=x from (List.getElem?_eq_some_iff.1 hX).2] at hc
     have htk2:=Lib.hid (take_at hX)
     have hxb:=hpx'.out x (List.mem_of_getElem? hX)
     have hrp':=Lib.hid hrp
     have hpa':=Lib.hid hpa
     have hjl' : (j:Int)<(p.l.length:Int):=by omega
     have hcx:=hx.cell
     rw[hpa]
     clear hX hrp hpa
     generalize hs2:seen++p.l.take j=seen2 at hM
     have hs2' : Hid (seen++p.l.take (j+1)=seen2++[x]):=Lib.hid (by rw[htk2.out,←List.append_assoc,hs2])
     clear hs2
     go_wp2_with (refine nT hM (by omega) rfl _ _ _ rfl rfl x rfl rfl (by omega) ?_)
     intro w6 hM6 hgr6
     rw[wu,←hs2'.out] at hM6
     have hb6:=hbr.grown hgr6 hbr.size (fun k hk=>by cases hk;omega)
     have hx6:=hx.grown hgr6 (fun e=>by have:=Option.some.inj e;omega)
     have hrp6:=hM.rdv hrp'.out hgr6
     clear hbr hx hM hgr6 hcx hc hrp'
     go_wp2
     go_roundw
     case rel=>exact⟨j+1,m+1,by omega,by go_num,by omega,hb6,hx6,hM6,by rw[←hpa'.out];exact hrp6⟩
     case measure=>simp[intOf];omega
    ·have hjl' : ¬(j:Int)<(p.l.length:Int):=by omega
     rw[List.take_of_length_le (by omega)] at hM
     have hM' : jw wr gm m (lQ (((H.fi.take (q+1)).map PF.fi).flatMap Fi.b)):=by
      rw[htk.out,List.map_append,List.flatMap_append,hseen'.out]
      simpa[PF.fi] using hM
     clear hM hrp
     go_wp2
     go_roundw
     case rel=>exact⟨q+1,m,by omega,by go_num,by omega,hbr,hx,hM'⟩
     case measure=>simp[intOf];omega
  ·have hqi:¬(q:Int)<(H.fi.length:Int):=by omega
   rw[List.take_of_length_le (by omega)] at hM
   have hM' : jw wr gm n (lQ (jV H.ma.st)):=hM
   clear hM
   have hbk:=hb.ext hbr
   have hcb:=hbk.cell
   unfold bM at hcb
   go_upto_region 12 with (fail)
   clear hcb hbk
   go_loopw [38] (fun i wr => ∃(k:Nat),k≤H.dk.blocks.length∧i = .int .i64 k∧Below w.heap.size w wr∧aB wr (gm+1) #[.map (some gm)] 178∧jw wr gm n (lQ (jV H.ma.st))∧Hid (∀j:Nat,j<k→(decide ((j:Int)∈jV H.ma.st)||decide (H.dk.blocks.getD j zPg=zPg))=true)) (fun i _=>H.dk.blocks.length-(intOf i).toNat)
   case atStart=>exact⟨0,Nat.zero_le _,rfl,hbr,hx,hM',Lib.hid fun j hj=>absurd hj (Nat.not_lt_zero _)⟩
   case round=>
    clear hbr hx hM'
    obtain⟨k,hk,rfl,hbr,hx,hM,hall⟩:=hrel
    by_cases hkl:k<H.dk.blocks.length
    ·obtain⟨bd,od,hda,hrd⟩:=fE jk (by decide) (h.below hbr).dk.rb k hkl
     have hki:(k:Int)<(H.dk.blocks.length:Int):=by omega
     have hgd:Hid (H.dk.blocks.getD k zPg=H.dk.blocks[k]):=Lib.hid (by rw[List.getD_eq_getElem?_getD,List.getElem?_eq_getElem hkl];rfl)
     generalize hP:H.dk.blocks[k]=P at hrd hgd
     clear hP
     rw[hda]
     go_wp2_with (first | (refine ak _ _ rfl bd (od+k*8) rfl rfl _ hrd _ Try.underlying50 rfl psize ?_) | (refine aD rfl _ _ _ rfl (dO P) rfl rfl rfl psize (dP _) ?_))
     intro w3 hb3 px3
     have hb13:=ae hbr hb3
     have hx3:=hx.ext hb3
     have hM3:=hM.below hb3
     clear hbr hx hM hb3 hrd
     have hcx:=hx3.cell
     have hlook:=hM3.look k (by omega)
     have hcp:=px3.cell
     rw[DI] at hcp
     cases hu:lQ (jV H.ma.st) (k:Int) with
     | true=>
      rw[hu] at hlook
      have hall2:Hid (∀j:Nat,j<k+1→(decide ((j:Int)∈jV H.ma.st)||decide (H.dk.blocks.getD j zPg=zPg))=true):=Lib.hid fun j hj=>by
       by_cases e:j=k
       ·subst e
        rw[show decide ((j:Int)∈jV H.ma.st)=true from hu];rfl
       ·exact hall.out j (by omega)
      clear hu hall
      go_wp2
      go_roundw
      case rel=>exact⟨k+1,by omega,by go_num,hb13,hx3,hM3,hall2⟩
      case measure=>simp[intOf];omega
     | false=>
      rw[hu] at hlook
      have hE:∀W,(Op.equalIn 10000 50 (.agg #[.int .u8 P[0].toNat,.int .u8 P[1].toNat,.int .u8 P[2].toNat,.int .u8 P[3].toNat,.int .u8 P[4].toNat,.int .u8 P[5].toNat,.int .u8 P[6].toNat,.int .u8 P[7].toNat]) (.agg #[.int .u8 0,.int .u8 0,.int .u8 0,.int .u8 0,.int .u8 0,.int .u8 0,.int .u8 0,.int .u8 0])).run Try.prog W = .ok (P==zPg) W:=fun W=>Ni P zPg W
      by_cases hp0:P=zPg
      ·have hall2:Hid (∀j:Nat,j<k+1→(decide ((j:Int)∈jV H.ma.st)||decide (H.dk.blocks.getD j zPg=zPg))=true):=Lib.hid fun j hj=>by
        by_cases e:j=k
        ·subst e
         rw[hgd.out,decide_eq_true hp0,Bool.or_true]
        ·exact hall.out j (by omega)
       have hpb:(P==zPg)=true:=by rw[hp0];exact beq_self_eq_true _
       rw[hpb] at hE
       clear hu hall hpb hp0 hgd
       go_wp2
       go_roundw
       case rel=>exact⟨k+1,by omega,by go_num,hb13,hx3,hM3,hall2⟩
       case measure=>simp[intOf];omega
      ·have hpb:(P==zPg)=false:=by rw[beq_eq_false_iff_ne];exact hp0
       have hq:Hid (trimB H.ma=false):=Lib.hid (IP (k:=k) hkl (by
        show (decide ((k:Int)∈jV H.ma.st)||decide (H.dk.blocks.getD k zPg=zPg))=false
        rw[hgd.out,decide_eq_false hp0,show decide ((k:Int)∈jV H.ma.st)=false from hu];rfl))
       rw[hpb] at hE
       clear hu hall hpb hp0 hgd
       go_wp2
       go_ret
       rw[hq.out]
       exact⟨rfl,hb13⟩
    ·have hki:¬(k:Int)<(H.dk.blocks.length:Int):=by omega
     have hq:Hid (trimB H.ma = !(H.dk.queue.any (xL (lQ (jV H.ma.st))))):=Lib.hid (GK fun j hj=>hall.out j (by have:j<H.dk.blocks.length:=hj;omega))
     have hbk:=hb.ext hbr
     have hcb:=hbk.cell
     unfold bM at hcb
     have hd:=(h.below hbr).dk
     clear hall
     go_wp2_with fail
     refine (Cm H.dk.queue H.dq H.cdq _ hd.rq (by omega) (gm+1) gm n (lQ (jV H.ma.st)) hx hM hqb.out).mono ?_
     rintro r w4 ⟨rfl,hb4⟩
     go_wp2
     go_ret
     rw[hq.out]
     exact⟨rfl,ae hbr hb4⟩
theorem qE (e:Int):mf e 0=e:=by unfold mf;split<;>simp_all
theorem GU {e:Int} (h:e≠0) (er:Int):mf e er=e:=by unfold mf;rw[if_neg h]
theorem jL.rdM {w:World} {B b:Nat} {H:MH} {e:Int} (h:jL w B b H e):bZ w (some ⟨b,0,none⟩) [.slice H.af H.m.fs.length H.cf,.int .i64 H.m.hand]:=bG h.blk 0 2
theorem xk (H:MH) (e er:Int) (B b:Nat) (w:World) (h:jL w B b H e) :
  Calls Try.prog 120 #[.pointer (some ⟨b,0,none⟩),.int .i64 er] w fun r w'=>r = .returned (.tuple #[])∧jL w' B b H (mf e er)∧w.grownBy w' (some b):=by
 have hc:=h.blk.cell
 have hf:=h.blk.free
 unfold qm at hc
 go_enter Try.func120,Try.ntmps120
 by_cases h0:e=0
 ·have hg:=aH w b 11 [.int .i64 er]
  have hb:=h.blk.setCells [.int .i64 er] 11
  have hfin:Hid (mf e er=er):=Lib.hid (by unfold mf;rw[if_pos h0])
  have h':=Lib.hid h
  clear h
  go_wp2
  simp[bodyPost,results,go_sem,Try.results120]
  rw[hfin.out]
  exact⟨h'.out.setE hb hg,hg⟩
 ·go_wp2
  simp[bodyPost,results,go_sem,Try.results120]
  rw[GU h0]
  exact⟨h,World.grownBy.refl _ _⟩
theorem Ba (H:MH) (e f n:Int) (B b:Nat) (w:World) (h:jL w B b H e) :
  Calls Try.prog 103 #[.pointer (some ⟨b,0,none⟩),.int .i64 f,.int .i64 n] w fun r w'=>r = .returned (.tuple #[])∧∃H' e',jL w' B b H' e'∧KS w b H w' H'∧Kp.mk H'.ma e' = eU ⟨H.ma,e⟩ f n∧H'.sp=H.sp:=by
 go_enter Try.func103,Try.ntmps103
 go_wp2_with (refine ak _ _ rfl b 0 rfl rfl _ h.rdM _ Try.underlying27 rfl mem_size ?_)
 refine (EY H.m f n _ _ _ h.ma.rd.fr).mono ?_
 rintro r w1 ⟨vb,rfl,ho,hb1⟩
 obtain⟨a1,c1,rfl,_⟩:=DW ho
 have hBs:=Lib.hid h.bs
 have h1:=h.below hb1
 have s1:=(KS.refl w b H).below hb1
 go_wp2_with (refine aD rfl _ _ _ rfl #[.slice a1 (jd H.m f n).fs.length c1,.int .i64 (jd H.m f n).hand] rfl rfl rfl mem_size (kW _ _ _ _) ?_)
 intro w2 hb2 hx2
 have h2:=h1.below hb2
 have s2:=s1.below hb2
 have ho2:=ho.below hb2
 clear h1 s1 ho hb2
 go_wp2_with fail
 refine (xk _ e (iY H.m f n) _ _ _ h2).mono ?_
 rintro r w3 ⟨rfl,h3,hg3⟩
 have s3:=s2.putB hg3 rfl rfl rfl
 have ho3:=aj ho2 h2.blk (by decide) hg3
 have hx3:=bq hx2 h2.blk (by decide) hg3
 clear h2 s2 ho2 hx2 hg3
 by_cases h0:iY H.m f n=0
 ·rw[h0,qE] at h3
  have hq:Hid (eU ⟨H.ma,e⟩ f n=⟨{ H.ma with m:=jd H.m f n },e⟩):=Lib.hid (by unfold eU;exact if_pos h0)
  have hx:=hx3.cell
  clear h
  rw[h0]
  go_wp2_with (first | (refine ak _ _ rfl _ 0 rfl rfl [.slice a1 (jd H.m f n).fs.length c1,.int .i64 (jd H.m f n).hand] (bG hx3 0 2) _ Try.underlying27 rfl mem_size ?_) | (refine eG rfl _ _ _ rfl b 0 _ rfl rfl _ _ h3.blk (by show 0+2≤12;decide) mem_size (kW _ _ _ _) ?_))
  intro w4 hb4 hg4
  have h4:=h3.setM (ho3.mono hBs.out) hb4 hg4
  go_wp2
  simp[bodyPost,results,go_sem,Try.results103]
  rw[hq.out]
  exact⟨_,_,h4,s3.putF hg4 ho3 (Nat.le_refl _) rfl rfl,rfl,rfl⟩
 ·have hq:Hid (eU ⟨H.ma,e⟩ f n=⟨H.ma,mf e (iY H.m f n)⟩):=Lib.hid (by unfold eU;exact if_neg h0)
  go_wp2
  simp[bodyPost,results,go_sem,Try.results103]
  rw[hq.out]
  exact⟨_,_,h3,s3,rfl,rfl⟩
theorem FZ (H:MH) (e f n:Int) (B b:Nat) (w:World) (h:jL w B b H e) :
  Calls Try.prog 103 #[.pointer (some ⟨b,0,none⟩),.int .i64 f,.int .i64 n] w fun r w'=>r = .returned (.tuple #[])∧KR w B b H w' (eU ⟨H.ma,e⟩ f n):=
 (Ba H e f n B b w h).mono fun r w' ⟨h1,H',e',h2,h3,h4,_⟩=>⟨h1,H',e',h2,h3,h4⟩
theorem aR {P:Program} {ρ:Operand→Value} {o:Oper} {w:World} {t e:TypeId} {x y:Operand} {b off n c i sz:Nat} {k:IntKind} (ho:o.op = .indexAddr t x y) (hx:ρ x = .slice (some ⟨b,off,none⟩) n c) (hy:ρ y = .int k (i:Int)) (hi:i<n)
  (hu:P.underlying t=some (.slice e)) (hs:(P.info? e).map (·.size)=some sz):(execOp ρ o).run P w = .ok (.value (.pointer (some ⟨b,off+i*sz,none⟩))) w:=by
 obtain⟨inf,hinf,hsz⟩:∃inf,P.info? e=some inf∧inf.size=sz:=by
  cases h:P.info? e with
  | none=>rw[h] at hs;cases hs
  | some inf=>rw[h] at hs;exact⟨inf,rfl,by simpa using hs⟩
 have hso:(Go.sizeOf e).run P w = .ok sz w:=by simp[Go.sizeOf,typeInfo,hinf,go_sem,hsz]
 simp[execOp,go_sem,ho,hx,hy,hu,hso,hi]
theorem mP {w:World} {b o:Nat} {vs:List Value} (h:bZ w (some ⟨b,o,none⟩) vs) (d n:Nat):bZ w (some ⟨b,o+d,none⟩) ((vs.drop d).take n):=by
 intro i u hi
 rw[List.getElem?_take] at hi
 split at hi
 ·rw[List.getElem?_drop] at hi
  obtain⟨b',o',e,hc⟩:=h (d+i) u hi
  cases e
  exact⟨_,_,rfl,by rw[Nat.add_assoc];exact hc⟩
 ·cases hi
theorem mY {cur:Array Value} {o:Nat} {v:Value} (r:List Value) (h:cur[o]?=some v):putAt cur o (v::r)=putAt cur (o+1) r:=by
 have:cur.setIfInBounds o v=cur:=by
  apply Array.ext_getElem?
  intro i
  rw[Array.getElem?_setIfInBounds]
  by_cases e:o=i
  ·subst e
   rw[if_pos rfl,if_pos (Array.getElem?_eq_some_iff.1 h).1,h]
  ·rw[if_neg e]
 show putAt (cur.setIfInBounds o v) (o+1) r=_
 rw[this]
theorem yC {w:World} {B:Nat} {e:TypeId} {sz n off c g:Nat} {xs:List Value} {cur:Array Value} (h:Own w B e sz (.slice (some ⟨g,off,none⟩) n c) n xs) (hb:aB w g cur e):∀j u,xs[j]?=some u→cur[off+j]?=some u:=by
 rcases h.2 with ⟨h1,_⟩|⟨g',off',cap',cur',hv,_,hk,_,_,_,ht⟩
 ·cases h1
 ·cases hv
  have:cur=cur':=by
   unfold aB at hb hk
   rw[hb] at hk
   simpa using hk
  subst this
  exact ht
theorem jL.setT {w:World} {B b:Nat} {H:MH} {e:Int} (h:jL w B b H e) {p:Nat} {P:PS} (hP:H.sp[p]?=some P) :
  ∃g off cur,H.ap=some ⟨g,off,none⟩∧B≤g∧aB w g cur 65∧off+p*10+2+8≤cur.size∧bZ w (some ⟨g,off+p*10,none⟩) (kS P) ∧
   ∀(w' : World) (v:Vector Value 8) (t:Tb),kL w B (iG v) t→tH t→aB w' g (putAt cur (off+p*10+2) (iG v).toList) 65→w.grownBy w' (some g)→jL w' B b { H with sp:=H.sp.set p { P with ts:=v,tb:=t } } e:=by
 have hp:=(List.getElem?_eq_some_iff.1 hP).1
 have hPe:=(List.getElem?_eq_some_iff.1 hP).2
 obtain⟨g,off,cap,cur,hv,hB,hblk,hfit,hset⟩:=oL ko (by decide) rfl h.ma.sp p hp
 simp only[Value.slice.injEq] at hv
 obtain⟨hap,_,hcp⟩:=hv
 have hsp:=h.ma.sp
 rw[hap] at hsp
 have hcell:=yC hsp hblk
 have hat:∀j u,(kS P)[j]?=some u→cur[off+p*10+j]?=some u:=fun j u hj=>by
  rw[Nat.add_assoc]
  exact hcell _ _ (flat_get kS 10 ko H.sp p hp j u (by rw[hPe];exact hj))
 refine⟨g,off,cur,hap,hB,hblk,by omega,fun j u hj=>⟨g,_,rfl,by rw[hblk.cell];exact hat j u hj⟩,fun w' v t ht htz hb hg => ?_⟩
 have e1:putAt cur (off+p*10) (kS { P with ts:=v,tb:=t })=putAt cur (off+p*10+2) (iG v).toList:=by
  show putAt cur (off+p*10) (.bool P.lv :: .slice P.aa P.ar.length P.ac::(iG v).toList)=_
  rw[mY _ (by simpa using hat 0 _ rfl),mY _ (hat 1 _ rfl)]
 rw[←e1] at hb
 have hlen:(H.sp.set p { P with ts:=v,tb:=t }).length=H.sp.length:=List.length_set
 have hbk:b≠g:=fun e=>by
  have h1:=h.blk
  subst e
  unfold aB at h1 hblk
  rw[h1] at hblk
  simp only[Option.some.injEq,Obj.cells.injEq] at hblk
  exact absurd hblk.2.1 (by decide)
 refine⟨?_,h.ge,⟨aj h.ma.fr hblk (by decide) hg,aj h.ma.sl hblk (by decide) hg,h.ma.sw.keep hblk (by decide) (by decide) hg,h.ma.dk.keep hblk (by decide) (by decide) hg,h.ma.st.keep hblk (by decide) (by decide) hg,aj h.ma.ca hblk (by decide) hg,?_,fun q hq => ?_,h.ma.c64⟩,fun q hq => ?_⟩
 ·have:qm { H with sp:=H.sp.set p { P with ts:=v,tb:=t } } e=qm H e:=by unfold qm;simp only[hlen]
  rw[this]
  exact h.blk.grown hg (fun e=>hbk (Option.some.inj e).symm)
 ·simp only[hlen]
  exact hset w' _ hb
 ·rcases List.mem_or_eq_of_mem_set hq with hq|rfl
  ·exact⟨aj (h.ma.ps q hq).1 hblk (by decide) hg,(h.ma.ps q hq).2.keep hblk (by decide) hg⟩
  ·exact⟨aj (h.ma.ps P (List.mem_of_getElem? hP)).1 hblk (by decide) hg,ht.keep hblk (by decide) hg⟩
 ·rcases List.mem_or_eq_of_mem_set hq with hq|rfl
  ·exact h.tz q hq
  ·exact htz
theorem jJ {H:MH} {p:Nat} {P:PS} (hP:H.sp[p]?=some P):bI H.ma p=P.sp:=by
 unfold bI MH.ma
 simp only
 rw[List.getD_eq_getElem?_getD,List.getElem?_map,hP];rfl
theorem Er {H:MH} {p:Nat} {P:PS} (hP:H.sp[p]?=some P) (v:Vector Value 8) (t:Tb):MH.ma { H with sp:=H.sp.set p { P with ts:=v,tb:=t } }=setTb H.ma p t:=by
 unfold setTb
 rw[jJ hP]
 unfold MH.ma
 simp only[List.map_set]
 rfl
theorem Iw {w:World} {v:Vector Value 8} {t:Tb} (h:zo w (iG v) t):∀u∈(iG v).toList,u.oneCell' = true:=by
 have:=h.one
 rw[←Array.all_toList,List.all_eq_true] at this
 exact this
theorem Kz {t:Tb} {n:Int} {e:En}:tH (setT t n e):=by
 by_cases h:setE t n e=0
 ·exact oh (qp h)
 ·rw[oK h];exact oh zTb_right
def EB (B:Nat) (t:Tb) (n:Int) (x:En):iF:=⟨fun v w => ∃cs,v = .tuple #[.agg cs,.int .i64 (setE t n x)]∧kL w B cs (setT t n x),fun _ _ _ hb ⟨cs,h1,h2⟩=>⟨cs,h1,h2.below hb⟩⟩
def Ak (B:Nat) (t:Tb):iF:=⟨fun v w => ∃cs,v = .agg cs∧kL w B cs t,fun _ _ _ hb ⟨cs,h1,h2⟩=>⟨cs,h1,h2.below hb⟩⟩
theorem iV (H:MH) (e n:Int) (p:Nat) (x:En) (B b:Nat) (w:World) (h:jL w B b H e) (hp:p<H.sp.length) :
  Calls Try.prog 102 #[.pointer (some ⟨b,0,none⟩),.int .i64 p,.int .i64 n,.agg (fA x)] w fun r w'=>r = .returned (.tuple #[])∧KR w B b H w' (fq ⟨H.ma,e⟩ p n x):=by
 obtain⟨P,hP⟩:∃P,H.sp[p]?=some P:=⟨_,List.getElem?_eq_getElem hp⟩
 have hsp:=Lib.hid (jJ hP)
 have hBs:=Lib.hid h.bs
 have hPm:=List.mem_of_getElem? hP
 go_enter Try.func102,Try.ntmps102
 go_upto_region 1 with (fail)
 refine eP (fun W=>Code.wp _ _ _ _ W) fun w1 hb1 hx1 hs1 => ?_
 have h1:=h.below hb1
 have s1:=(KS.refl w b H).below hb1
 clear h hs1
 obtain⟨g,off,cur,hap,hBg,hblk,hfit,hrd,hset⟩:=h1.setT hP
 refine kZ 18 [_,_,_,_,_,_,_,_,_,_,_,.r 11 ((EB w1.heap.size P.tb n x)),.r 12 ((EB w1.heap.size P.tb n x)),.r 13 ((Ak w1.heap.size (setT P.tb n x))),.v (.int .i64 (setE P.tb n x)),.r 15 ((mE w1.heap.size 63 8)),.y 16 ((Mm 15 w1.heap.size 63 (Ak w1.heap.size (setT P.tb n x)))),.v (.int .i64 (setE P.tb n x))] (fun W=>Below w1.heap.size w1 W) gu (Below.refl _ _) (Yk gu rfl (Yk gu rfl (Yf gu b 0 rfl rfl (Yf gu b 10 rfl rfl (Yc gu (.slice (some ⟨g,off,none⟩) H.sp.length H.cp) (fun W hb=>by simp[(h1.below hb).blk.cell,qm,hap]) rfl rfl rfl rfl (Yk gu rfl (Yr gu (.pointer (some ⟨g,off+p*10,none⟩)) (fun ρ y W hb hKn=>(aR rfl (az rfl hKn) (az rfl hKn) hp Try.underlying38 space_size)) rfl rfl (Yf gu g (off+p*10+2) rfl rfl (Yr gu (.agg (iG P.ts)) (fun ρ y W hb hKn=>(bN rfl (az rfl hKn) (mP (hrd.below hb) 2 8) Try.underlying63 tab_agg tab_size)) rfl rfl (Yk gu rfl (Yr gu (.agg (fA x)) (fun ρ y W hb hKn=>(aS rfl (az rfl hKn) (hx1.ext hb) Try.underlying67 rfl entry_size)) rfl rfl (all_cons ?_ (all_cons ?_ (all_cons ?_ (all_cons ?_ (all_cons ?_ (all_cons ?_ (Yk gu rfl (all_nil))))))))))))))))))) (fun _=>rfl) rfl ?_
 ·intro ρ y W hw hn hb hd
  refine lS gu hb ((EB w1.heap.size P.tb n x)) (fun _ _ h=>h) ?_
  have E19:=hw 19 8 rfl
  have h8:y 8 = .agg (iG P.ts):=hd 8 rfl
  have E20:=hw 20 9 rfl
  have h9:y 9 = .int .i64 n:=hd 9 rfl
  have E21:=hw 21 10 rfl
  have h10:y 10 = .agg (fA x):=hd 10 rfl
  have EF:∀f,ρ (.func f) = .func (.func f) #[] #[]:=fun f=>hn (.func f) trivial
  refine aG _ _ (ag rfl) (aK rfl (EF _) Try.func119 (by kernel_rfl) (by kernel_rfl) (by simp only[List.map_toArray,List.map_cons,List.map_nil,E19,h8,E20,h9,E21,h10,EF];rfl)) ?_
  refine (Gj P.tb (iG P.ts) n x W (((h1.below hb).ma.ps P hPm).2.rd) (h1.tz P hPm)).mono ?_
  rintro r W2 ⟨cs,rfl,ho,hb2⟩
  exact⟨_,rfl,hb2,cs,rfl,ho.mono hb.size⟩
 ·intro ρ y W hw hn hb hd
  refine lS gu hb ((EB w1.heap.size P.tb n x)) (fun _ _ h=>h) ?_
  have E22:=hw 22 11 rfl
  have h11:=hd 11 rfl
  refine ah _ (ag rfl) (run_move (.inl rfl) E22) ?_
  exact h11
 ·intro ρ y W hw hn hb hd
  refine lS gu hb ((Ak w1.heap.size (setT P.tb n x))) (fun _ _ h=>h) ?_
  have E10:=hw 10 12 rfl
  have h12:=hd 12 rfl
  obtain⟨cs,hcs,ho⟩:=h12
  refine ah (.agg cs) (ag rfl) (by simp[execOp,go_sem,bR,E10,hcs]) ?_
  exact⟨cs,rfl,ho⟩
 ·intro ρ y W hw hn hb hd
  refine lS gu hb (nN (.int .i64 (setE P.tb n x))) (fun _ _ h=>h) ?_
  have E10:=hw 10 12 rfl
  have h12:=hd 12 rfl
  obtain⟨cs,hcs,ho⟩:=h12
  refine ah (.int .i64 (setE P.tb n x)) (ag rfl) (by simp[execOp,go_sem,bR,E10,hcs]) rfl
 ·intro ρ y W hw hn hb hd
  refine lS gu hb ((mE w1.heap.size 63 8)) (fun _ _ h=>h) ?_
  refine jb (.pointer (some ⟨W.heap.size,0,none⟩)) (ag rfl) (by simp[execOp,go_sem,bR]) ((Below.refl _ _).alloc (Nat.le_refl _) (.cells #[.slice none 0 0,.slice none 0 0,.slice none 0 0,.slice none 0 0,.slice none 0 0,.slice none 0 0,.slice none 0 0,.slice none 0 0] 63)) ?_
  exact⟨_,_,rfl,hb.size,aB.new _ _ _,rfl⟩
 ·intro ρ y W hw hn hb hd;have E8:=hw 8 15 rfl;have h15:=hd 15 rfl;have E23:=hw 23 13 rfl;have h13:=hd 13 rfl
  obtain⟨cc,e7,ho7⟩:=h13
  obtain⟨g3,cur3,e9,hg9,hb9,hs9⟩:=h15
  have hsz7:=ho7.sz
  refine vW (ag rfl) _ _ _ rfl g3 0 (.agg cc) cc.toList (E8.trans e9) (E23.trans e7) rfl cur3 _ hb9 (by rw[Array.length_toList,hs9,hsz7];exact Nat.le_refl _) (by rw[Array.length_toList,hsz7];exact tab_size) (aY ho7.rd.one) ?_
  intro w1 hw1 hgr
  rw[gN cur3 cc (by rw[hs9,hsz7])] at hw1
  refine⟨hb.grown hgr hb.size (fun k hk=>by cases hk;exact hg9),⟨g3,cc,e9,hg9,hw1,⟨cc,rfl,ho7.keep hb9 (by decide) hgr⟩⟩,?_⟩
  intro k hk hne
  match k,hk,hne with
  | 0,_,_=>exact fun h=>h
  | 1,_,_=>exact fun h=>h
  | 2,_,_=>exact fun h=>h
  | 3,_,_=>exact fun h=>h
  | 4,_,_=>exact fun h=>h
  | 5,_,_=>exact fun h=>h
  | 6,_,_=>exact fun h=>h
  | 7,_,_=>exact fun h=>h
  | 8,_,_=>exact fun h=>h
  | 9,_,_=>exact fun h=>h
  | 10,_,_=>exact fun h=>h
  | 11,_,_=>exact fun⟨c,q1,q2⟩=>⟨c,q1,q2.keep hb9 (by decide) hgr⟩
  | 12,_,_=>exact fun⟨c,q1,q2⟩=>⟨c,q1,q2.keep hb9 (by decide) hgr⟩
  | 13,_,_=>exact fun⟨c,q1,q2⟩=>⟨c,q1,q2.keep hb9 (by decide) hgr⟩
  | 14,_,_=>exact fun h=>h
  | 15,_,_=>exact fun q=>ut q hw1 (fun _=>hsz7) ⟨_,hb9⟩ hgr
  | 16,_,h=>exact absurd rfl h
  | 17,_,_=>exact fun h=>h
  | n+18,h,_=>exact absurd h (by omega)
 intro y W2 hbW2 hRW2
 replace hbW2:Below w1.heap.size w1 W2:=hbW2
 have hy11:((EB w1.heap.size P.tb n x)).r (y 11) W2:=hRW2 11 (by decide)
 have hy12:((EB w1.heap.size P.tb n x)).r (y 12) W2:=hRW2 12 (by decide)
 have hy13:((Ak w1.heap.size (setT P.tb n x))).r (y 13) W2:=hRW2 13 (by decide)
 have hy15:((mE w1.heap.size 63 8)).r (y 15) W2:=hRW2 15 (by decide)
 have hy16:=hRW2 16 (by decide)
 clear hRW2
 simp only[strip,bR,List.map_cons,List.map_nil]
 obtain⟨gx,cs2,hyx,hgx,hbx,ca2,hca2,ho2⟩:=hy16
 simp only[Value.agg.injEq] at hca2
 subst hca2
 obtain⟨v2,rfl⟩:=Jb ho2.sz
 have h2:=h1.below hbW2
 have s2:=s1.below hbW2
 have hge1:=Lib.hid hb1.size
 clear hy11 hy12 hy13 hy15 hset hrd hblk hfit hap h1 s1 hx1 hBg hb1 cur
 go_wp2_with fail
 refine (xk _ e (setE P.tb n x) _ _ _ h2).mono ?_
 rintro r w3 ⟨rfl,k3,hg3⟩
 have s3:=s2.putB hg3 rfl rfl rfl
 have ho3:=ho2.keep h2.blk (by decide) hg3
 have hx3:=bq hbx h2.blk (by decide) hg3
 have hBg:=Lib.hid hgx
 clear h2 s2 ho2 hbx hg3 hbW2 hgx
 have hsE:Hid (setE (bI H.ma p).tb n x=setE P.tb n x):=Lib.hid (by rw[hsp.out];rfl)
 by_cases h0:setE P.tb n x=0
 ·rw[h0,qE] at k3
  have hq:Hid (fq ⟨H.ma,e⟩ p n x=⟨setTb H.ma p (setT P.tb n x),e⟩):=Lib.hid (by
   unfold fq
   simp only
   rw[if_pos (hsE.out.trans h0),hsp.out]
   rfl)
  obtain⟨g,off,cur,hap,hBg',hblk,hfit,hrd,hset⟩:=k3.setT hP
  have hx:=hx3.cell
  have kc3:=k3.blk.cell
  unfold qm at kc3
  rw[hap] at kc3
  rw[h0]
  go_upto_region 4 with (fail)
  refine aC 9 [_,_,_,_,_,_,_,_,_] (Gk rfl (Gk rfl (Gf b 0 rfl rfl (Gf b 10 rfl rfl (Gc (.slice (some ⟨g,off,none⟩) H.sp.length H.cp) (fun W hb=>by simp[(k3.below hb).blk.cell,qm,hap]) rfl rfl rfl rfl (Gk rfl (Gr (.agg (iG v2)) (fun ρ y W hb hKn=>(bN rfl (az rfl hKn) ((hx3.ext hb).rd) Try.underlying63 tab_agg tab_size)) rfl rfl (Gr (.pointer (some ⟨g,off+p*10,none⟩)) (fun ρ y W hb hKn=>(aR rfl (az rfl hKn) (az rfl hKn) hp Try.underlying38 space_size)) rfl rfl (Gf g (off+p*10+2) rfl rfl (all_nil)))))))))) (fun _=>rfl) rfl ?_
  intro y W4 hbW4 _
  go_wp2_with (refine eG rfl _ _ _ rfl g (off+p*10+2) (iG v2) rfl rfl _ _ (hblk.ext hbW4) hfit tab_size (by rw[←Array.all_toList,List.all_eq_true];exact Iw ho3.rd) ?_)
  intro w5 hb5 hg5
  have hg5':=Db hbW4 hg5
  have k5:=hset w5 v2 (setT P.tb n x) (ho3.mono (Nat.le_trans hBs.out hge1.out)) Kz hb5 hg5'
  go_wp2
  simp[bodyPost,results,go_sem,Try.results102]
  rw[hq.out]
  refine⟨_,_,k5,s3.put hg5' (.inr (.inr (.inr (by rw[hap];rfl)))) fun y hy => .inl (DR rfl rfl rfl hy),?_⟩
  rw[Er hP]
 ·have hq:Hid (fq ⟨H.ma,e⟩ p n x=⟨H.ma,mf e (setE P.tb n x)⟩):=Lib.hid (by
   unfold fq
   simp only
   rw[if_neg (by rw[hsE.out];exact h0),hsE.out])
  go_wp2
  simp[bodyPost,results,go_sem,Try.results102]
  rw[hq.out]
  exact⟨_,_,k3,s3,rfl⟩
theorem slots_size:(Try.prog.info? 29).map (·.size)=some 1:=by kernel_rfl
def uM (B:Nat) (T:TypeId) (sz n:Nat) (xs:List Value) (er:Int):iF:=⟨fun v w => ∃u,v = .tuple #[u,.int .i64 er]∧Own w B T sz u n xs,fun _ _ _ hb ⟨u,h1,h2⟩=>⟨u,h1,h2.below hb⟩⟩
theorem jL.at {w:World} {B b:Nat} {H:MH} {e:Int} (h:jL w B b H e) {p:Nat} {P:PS} (hP:H.sp[p]?=some P):∃g off,H.ap=some ⟨g,off,none⟩∧bZ w (some ⟨g,off+p*10,none⟩) (kS P)∧bZ w (some ⟨g,off+p*10+2,none⟩) (iG P.ts).toList∧P.good w:=by
 have hp:=(List.getElem?_eq_some_iff.1 hP).1
 obtain⟨g,off,P',ha,hP',hr⟩:=lC h.ma.rd.sp.rd p hp
 rw[hP] at hP'
 cases hP'
 exact⟨g,off,ha,hr,mP hr 2 8,h.ma.rd.ps P (List.mem_of_getElem? hP)⟩
theorem KR.trans {w0 w1 w2:World} {B b:Nat} {H0 H1:MH} {k:Kp} (h:KS w0 b H0 w1 H1) (k2:KR w1 B b H1 w2 k):KR w0 B b H0 w2 k:=by
 obtain⟨H2,e2,h1,h2,h3⟩:=k2
 exact⟨H2,e2,h1,h.trans h2,h3⟩
theorem EH (H:MH) (e n:Int) (p:Nat) (B b:Nat) (w:World) (h:jL w B b H e) (hp:p<H.sp.length) :
  Calls Try.prog 104 #[.pointer (some ⟨b,0,none⟩),.int .i64 p,.int .i64 n] w fun r w'=>r = .returned (.tuple #[])∧KR w B b H w' (jK ⟨H.ma,e⟩ p n):=by
 obtain⟨P,hP⟩:∃P,H.sp[p]?=some P:=⟨_,List.getElem?_eq_getElem hp⟩
 have hsp:=Lib.hid (jJ hP)
 obtain⟨g,off,hap,hrd,hrt,hgood⟩:=h.at hP
 have hc:=h.blk.cell
 unfold qm at hc
 rw[hap] at hc
 have hpi:(p:Int)<(H.sp.length:Int):=by omega
 go_enter Try.func104,Try.ntmps104
 go_wp2_with (refine ak _ _ rfl g (off+p*10+2) rfl rfl _ hrt _ Try.underlying63 tab_agg tab_size ?_)
 refine (vK P.tb (iG P.ts) n _ hgood.tb).mono ?_
 rintro r w1 ⟨rfl,hb1⟩
 have h1:=h.below hb1
 have s1:=(KS.refl w b H).below hb1
 clear hc hrd hrt hgood
 generalize hx:bT P.tb n=x
 go_wp2_with (refine aD rfl _ _ _ rfl (fA x) rfl rfl rfl entry_size (by simp[fA,Value.oneCell']) ?_)
 intro w2 hb2 hx2
 have h2:=h1.below hb2
 have s2:=s1.below hb2
 clear h1 s1 hb1 hb2 h
 have hc2:=hx2.cell
 unfold fA at hc2
 have hgx:Hid (bT (bI H.ma p).tb n=x):=Lib.hid (by rw[hsp.out];exact hx)
 clear hx
 by_cases hk1:x.k=1
 ·have hq:Hid (jK ⟨H.ma,e⟩ p n=fq (eU ⟨H.ma,e⟩ x.n (-1)) p n zEn):=Lib.hid (by
   unfold jK
   simp only[hgx.out]
   rw[if_pos hk1])
  have hk1':=Lib.hid hk1
  rw[hk1] at hc2
  clear hk1
  go_wp2_with fail
  refine (FZ H e x.n (-1) B b _ h2).mono ?_
  rintro r w3 ⟨rfl,H3,e3,h3,s3,q3⟩
  have hl3:H3.sp.length=H.sp.length:=by
   have e1:H3.ma.sp=H.ma.sp:=by
    have:=congrArg (fun k=>k.m.sp) q3
    simp only at this
    rw[this]
    unfold eU
    split<;>rfl
   have:=congrArg List.length e1
   unfold MH.ma at this
   simpa using this
  have s3':=s2.trans s3
  have hq3:=Lib.hid q3
  clear q3 s3 hc2
  go_wp2_with fail
  refine (iV H3 e3 n p zEn B b _ h3 (by rw[hl3];exact hp)).mono ?_
  rintro r w4 ⟨rfl,hk4⟩
  go_wp2
  simp[bodyPost,results,go_sem,Try.results104]
  rw[hq.out,←hq3.out]
  exact KR.trans s3' hk4
 ·by_cases hk2:x.k=2
  ·have hq:Hid (jK ⟨H.ma,e⟩ p n=fq (mW ⟨H.ma,e⟩ x.n (-1)) p n zEn):=Lib.hid (by
    unfold jK
    simp only[hgx.out]
    rw[if_neg hk1,if_pos hk2])
   rw[hk2] at hc2
   clear hk1 hk2
   have hck:=h2.blk.cell
   unfold qm at hck
   go_upto_region 5 with (fail)
   refine kZ 13 [_,_,_,_,_,_,_,.r 7 ((uM w2.heap.size 3 1 (bi H.sl x.n (-1)).length ((bi H.sl x.n (-1)).map dE) (bC H.sl x.n (-1)))),.r 8 ((uM w2.heap.size 3 1 (bi H.sl x.n (-1)).length ((bi H.sl x.n (-1)).map dE) (bC H.sl x.n (-1)))),.r 9 ((ic w2.heap.size 3 1 (bi H.sl x.n (-1)).length ((bi H.sl x.n (-1)).map dE))),.v (.int .i64 (bC H.sl x.n (-1))),.r 11 ((ic w2.heap.size 3 1 (bi H.sl x.n (-1)).length ((bi H.sl x.n (-1)).map dE))),.v (.int .i64 (bC H.sl x.n (-1)))] (fun W=>Below w2.heap.size w2 W) gu (Below.refl _ _) (Yk gu rfl (Yk gu rfl (Yf gu b 0 rfl rfl (Yf gu b 2 rfl rfl (Yc gu (.slice H.asl H.sl.length H.csl) (fun W hb=>by simp[(h2.below hb).blk.cell,qm]) rfl rfl rfl rfl (Yf gu w1.heap.size 1 rfl rfl (Yc gu (.int .i64 x.n) (fun W hb=>by simp[(hx2.ext hb).cell,fA]) rfl rfl rfl rfl (all_cons ?_ (all_cons ?_ (all_cons ?_ (all_cons ?_ (all_cons ?_ (Yk gu rfl (all_nil)))))))))))))) (fun _=>rfl) rfl ?_
   ·intro ρ y W hw hn hb hd
    refine lS gu hb ((uM w2.heap.size 3 1 (bi H.sl x.n (-1)).length ((bi H.sl x.n (-1)).map dE) (bC H.sl x.n (-1)))) (fun _ _ h=>h) ?_
    have E35:=hw 35 4 rfl
    have h4:y 4 = .slice H.asl H.sl.length H.csl:=hd 4 rfl
    have E37:=hw 37 6 rfl
    have h6:y 6 = .int .i64 x.n:=hd 6 rfl
    have EC:∀v,ρ (.const v)=v:=fun v=>hn (.const v) trivial
    have EF:∀f,ρ (.func f) = .func (.func f) #[] #[]:=fun f=>hn (.func f) trivial
    refine aG _ _ (ag rfl) (aK rfl (EF _) Try.func101 (by kernel_rfl) (by kernel_rfl) (by simp only[List.map_toArray,List.map_cons,List.map_nil,E35,h4,E37,h6,EC,EF];rfl)) ?_
    have hm:=(h2.below hb).ma.rd.sl
    refine (vU H.sl H.asl H.csl x.n (-1) W hm.le hm.nl hm.rd (by have:=hm.le;have:=hm.mx;unfold maxLen at this;omega)).mono ?_
    rintro r W3 ⟨u,rfl,ho,hb3⟩
    exact⟨_,rfl,hb3,u,rfl,ho.mono hb.size⟩
   ·intro ρ y W hw hn hb hd
    refine lS gu hb ((uM w2.heap.size 3 1 (bi H.sl x.n (-1)).length ((bi H.sl x.n (-1)).map dE) (bC H.sl x.n (-1)))) (fun _ _ h=>h) ?_
    have E38:=hw 38 7 rfl
    have h7:=hd 7 rfl
    refine ah _ (ag rfl) (run_move (.inl rfl) E38) ?_
    exact h7
   ·intro ρ y W hw hn hb hd
    refine lS gu hb ((ic w2.heap.size 3 1 (bi H.sl x.n (-1)).length ((bi H.sl x.n (-1)).map dE))) (fun _ _ h=>h) ?_
    have E30:=hw 30 8 rfl
    have h8:=hd 8 rfl
    obtain⟨u,hu,ho⟩:=h8
    refine ah u (ag rfl) (by simp[execOp,go_sem,bR,E30,hu]) ?_
    exact ho
   ·intro ρ y W hw hn hb hd
    refine lS gu hb (nN (.int .i64 (bC H.sl x.n (-1)))) (fun _ _ h=>h) ?_
    have E30:=hw 30 8 rfl
    have h8:=hd 8 rfl
    obtain⟨u,hu,ho⟩:=h8
    refine ah (.int .i64 (bC H.sl x.n (-1))) (ag rfl) (by simp[execOp,go_sem,bR,E30,hu]) rfl
   ·intro ρ y W hw hn hb hd
    refine lS gu hb ((ic w2.heap.size 3 1 (bi H.sl x.n (-1)).length ((bi H.sl x.n (-1)).map dE))) (fun _ _ h=>h) ?_
    have E39:=hw 39 9 rfl
    have h9:=hd 9 rfl
    refine ah _ (ag rfl) (run_move (.inr rfl) E39) ?_
    exact h9
   intro y W3 hbW3 hRW3
   replace hbW3:Below w2.heap.size w2 W3:=hbW3
   have hy7:((uM w2.heap.size 3 1 (bi H.sl x.n (-1)).length ((bi H.sl x.n (-1)).map dE) (bC H.sl x.n (-1)))).r (y 7) W3:=hRW3 7 (by decide)
   have hy8:((uM w2.heap.size 3 1 (bi H.sl x.n (-1)).length ((bi H.sl x.n (-1)).map dE) (bC H.sl x.n (-1)))).r (y 8) W3:=hRW3 8 (by decide)
   have hy9:((ic w2.heap.size 3 1 (bi H.sl x.n (-1)).length ((bi H.sl x.n (-1)).map dE))).r (y 9) W3:=hRW3 9 (by decide)
   have hy11:((ic w2.heap.size 3 1 (bi H.sl x.n (-1)).length ((bi H.sl x.n (-1)).map dE))).r (y 11) W3:=hRW3 11 (by decide)
   clear hRW3
   simp only[strip,bR,List.map_cons,List.map_nil]
   have ho3:Own W3 w2.heap.size 3 1 (y 11) (bi H.sl x.n (-1)).length ((bi H.sl x.n (-1)).map dE):=hy11
   obtain⟨a3,c3,e7,_⟩:=Own.rd ho3
   rw[e7] at ho3
   simp only[e7]
   have k3:=h2.below hbW3
   have s3:=s2.below hbW3
   have hge:=Lib.hid (Nat.le_trans h2.bs (Nat.le_refl _))
   have hws:=Lib.hid s2.size
   clear hy7 hy8 hy9 hy11 e7 hc2 hck h2 s2 hx2 hbW3
   go_wp2_with fail
   refine (xk _ e (bC H.sl x.n (-1)) _ _ _ k3).mono ?_
   rintro r w4 ⟨rfl,k4,hg4⟩
   have s4:=s3.putB hg4 rfl rfl rfl
   have ho4:=aj ho3 k3.blk (by decide) hg4
   clear k3 s3 ho3 hg4
   by_cases h0:bC H.sl x.n (-1)=0
   ·rw[h0,qE] at k4
    have hq2:Hid (mW ⟨H.ma,e⟩ x.n (-1)=⟨{ H.ma with sl:=bi H.sl x.n (-1) },e⟩):=Lib.hid (by unfold mW;exact if_pos h0)
    rw[h0]
    go_wp2_with (refine ay rfl _ _ _ rfl b 2 _ [.slice a3 (bi H.sl x.n (-1)).length c3] rfl rfl rfl _ _ k4.blk (by show 2+1≤12;decide) slots_size (fun u hu=>by cases List.mem_singleton.1 hu;rfl) ?_)
    intro w5 hb5 hg5
    have k5:=k4.setL (ho4.mono hge.out) hb5 hg5
    have s5:KS w b H w5 { H with asl:=a3,csl:=c3,sl:=bi H.sl x.n (-1) }:=s4.putB hg5 rfl rfl rfl
    go_wp2_with fail
    refine (iV _ e n p zEn B b _ k5 hp).mono ?_
    rintro r w6 ⟨rfl,hk6⟩
    go_wp2
    simp[bodyPost,results,go_sem,Try.results104]
    rw[hq.out,hq2.out]
    exact KR.trans s5 hk6
   ·have hq2:Hid (mW ⟨H.ma,e⟩ x.n (-1)=⟨H.ma,mf e (bC H.sl x.n (-1))⟩):=Lib.hid (by unfold mW;exact if_neg h0)
    go_wp2_with fail
    refine (iV _ (mf e (bC H.sl x.n (-1))) n p zEn B b _ k4 hp).mono ?_
    rintro r w6 ⟨rfl,hk6⟩
    go_wp2
    simp[bodyPost,results,go_sem,Try.results104]
    rw[hq.out,hq2.out]
    exact KR.trans s4 hk6
  ·have hq:Hid (jK ⟨H.ma,e⟩ p n=⟨H.ma,e⟩):=Lib.hid (by
    unfold jK
    simp only[hgx.out]
    rw[if_neg hk1,if_neg hk2])
   go_wp2
   simp[bodyPost,results,go_sem,Try.results104]
   rw[hq.out]
   exact⟨_,_,h2,s2,rfl⟩
def ent (m:Ma) (p:Nat) (n:Int):En:=bT (bI m p).tb n
structure Pt (m:Ma):Prop where
 fr:cz m.m=0
 sl:cK m.sl=0
 sw:bD m.sw=0
 dk:bD m.dk=0
 st:aP m.st=0
 swl:m.sw.blocks.length=m.sl.length
 dkl:(m.dk.blocks.length:Int)=m.st.count
 spl:m.sp.length≤4
 ar:∀s∈m.sp,(aT s.ar).1=0
 tb:∀s∈m.sp,bB s.tb=0
theorem tQ {m:Ma} {p:Nat} (h:p<m.sp.length):m.sp[p]?=some (bI m p):=by
 unfold bI;rw[List.getD_eq_getElem?_getD,List.getElem?_eq_getElem h];rfl
theorem rZ {m:Ma} {p:Nat} (h:p<m.sp.length):bI m p∈m.sp:=List.mem_of_getElem? (tQ h)
theorem iT {m:Ma} {p:Nat} (h:m.sp.length≤p):bI m p=zSp:=by
 unfold bI;rw[List.getD_eq_getElem?_getD,List.getElem?_eq_none h];rfl
theorem Dt {m:Ma} {s:Sp} (h:s∈m.sp):∃p,p<m.sp.length∧s=bI m p:=by
 obtain⟨i,hi,rfl⟩:=List.mem_iff_getElem.1 h
 refine⟨i,hi,?_⟩
 have:=tQ (m:=m) hi
 rw[List.getElem?_eq_getElem hi] at this
 exact Option.some.inj this
theorem Pt.tbN {m:Ma} (h:Pt m) (p:Nat):bB (bI m p).tb=0:=by
 rcases Nat.lt_or_ge p m.sp.length with hp|hp
 ·exact h.tb _ (rZ hp)
 ·rw[iT hp];decide
theorem Pt.arN {m:Ma} (h:Pt m) (p:Nat):(aT (bI m p).ar).1=0:=by
 rcases Nat.lt_or_ge p m.sp.length with hp|hp
 ·exact h.ar _ (rZ hp)
 ·rw[iT hp];decide
theorem kN {m:Ma} (h:Pt m) (p:Nat) (n:Int):dm (ent m p n)=0:=kD (h.tbN p) n
theorem rW {m:Ma} (p:Nat) {n:Int} (h:n<0∨64≤n):ent m p n=zEn:=lm h
theorem bv (e:En):dm e=0↔(e.k=0∧e.n=0∧e.w=false)∨(e.k=1∧0≤e.n∧e.n<40)∨(e.k=2∧0≤e.n∧e.n<60∧e.w=false):=by
 obtain⟨k,n,w⟩:=e
 unfold dm
 simp only
 cases w
 all_goals
  simp only[Bool.false_eq_true,reduceCtorEq,and_true,and_false,or_false,false_or,or_true]
  constructor
  ·intro h
   split at h
   ·omega
   ·split at h
    ·omega
    ·split at h<;>omega
  ·intro h
   split
   ·omega
   ·split
    ·omega
    ·split
     ·omega
     ·rfl
theorem xO {m:Ma} {p:Nat} {t:Tb} (hp:p<m.sp.length) (q:Nat):bI (setTb m p t) q=if q=p then { bI m p with tb:=t } else bI m q:=by
 unfold setTb
 show (m.sp.set p _).getD q zSp=_
 rw[List.getD_eq_getElem?_getD,List.getElem?_set]
 by_cases e:q=p
 ·subst e;rw[if_pos rfl,if_pos hp,if_pos rfl];rfl
 ·rw[if_neg (fun h=>e h.symm),if_neg e];unfold bI;rw[List.getD_eq_getElem?_getD]
theorem Fa {m:Ma} {p:Nat} {t:Tb} (hp:p<m.sp.length) (q:Nat) (n:Int):ent (setTb m p t) q n=if q=p then bT t n else ent m q n:=by
 unfold ent
 rw[xO hp]
 by_cases e:q=p
 ·rw[if_pos e,if_pos e]
 ·rw[if_neg e,if_neg e]
theorem pF {m:Ma} {p:Nat} {t:Tb}:(setTb m p t).sp.length=m.sp.length:=List.length_set
theorem Pt.setTb {m:Ma} (h:Pt m) {p:Nat} {t:Tb} (ht:bB t=0):Pt (setTb m p t):=by
 by_cases hp:p<m.sp.length
 ·refine { h with spl:=by rw[pF];exact h.spl,ar:=fun s hs => ?_,tb:=fun s hs => ?_ }
  ·rcases List.mem_or_eq_of_mem_set hs with hs|rfl
   ·exact h.ar s hs
   ·exact h.arN p
  ·rcases List.mem_or_eq_of_mem_set hs with hs|rfl
   ·exact h.tb s hs
   ·exact ht
 ·have:Go.Proofs.Ytkjobhcnlppcnaa.setTb m p t=m:=by
   unfold Go.Proofs.Ytkjobhcnlppcnaa.setTb
   rw[List.set_eq_of_length_le (by omega)]
  rw[this];exact h
def jZ (kd i:Int) (e:En):Bool:=decide (e.k=kd)&&decide (e.n=i)
def bP (m:Ma) (kd i:Int):Nat:=(m.sp.map fun s=>(bA s.tb).countP (jZ kd i)).sum
def qO (b:Bool):Nat:=if b=true then 1 else 0
theorem countP_set {α:Type} (q:α→Bool):∀(l:List α) (k:Nat) (h:k<l.length) (x:α),(l.set k x).countP q+qO (q l[k])=l.countP q+qO (q x)
 | a::l,0,_,x=>by
  simp only[List.set_cons_zero,List.getElem_cons_zero,List.countP_cons,qO]
  omega
 | a::l,k+1,h,x=>by
  have:=countP_set q l k (by simpa using h) x
  simp only[List.set_cons_succ,List.getElem_cons_succ,List.countP_cons]
  omega
theorem sum_set:∀(l:List Nat) (k:Nat) (h:k<l.length) (x:Nat),(l.set k x).sum+l[k]=l.sum+x
 | a::l,0,_,x=>by simp only[List.set_cons_zero,List.getElem_cons_zero,List.sum_cons];omega
 | a::l,k+1,h,x=>by
  have:=sum_set l k (by simpa using h) x
  simp only[List.set_cons_succ,List.getElem_cons_succ,List.sum_cons]
  omega
theorem sG {t:Tb} {n:Int} {e:En} (h:setE t n e=0):bA (setT t n e)=(bA t).set n.toNat e:=by
 obtain⟨h1,h2,h3⟩:=nA h
 rw[xn h,vE (zi h1 h3) (by rw[List.length_set,iU])]
theorem CY {t:Tb} {n:Int} {e:En} (h:setE t n e=0) (q:En→Bool):(bA (setT t n e)).countP q+qO (q (bT t n))=(bA t).countP q+qO (q e):=by
 obtain⟨h1,h2,h3⟩:=nA h
 have hl:n.toNat<(bA t).length:=by rw[iU];omega
 have h4:=countP_set q (bA t) n.toNat hl e
 have h5:=rV t n.toNat (by omega)
 rw[List.getElem?_eq_getElem hl,Int.toNat_of_nonneg h2.1] at h5
 rw[Option.some.inj h5] at h4
 rw[sG h];exact h4
theorem mO {m:Ma} {p:Nat} (hp:p<m.sp.length) {n:Int} {x:En} (h:setE (bI m p).tb n x=0) (kd i:Int) :
  bP (setTb m p (setT (bI m p).tb n x)) kd i+qO (jZ kd i (ent m p n))=bP m kd i+qO (jZ kd i x):=by
 have h1:=CY h (jZ kd i)
 have h2:=sum_set (m.sp.map fun s=>(bA s.tb).countP (jZ kd i)) p (by simpa using hp) ((bA (setT (bI m p).tb n x)).countP (jZ kd i))
 unfold bP setTb
 rw[List.map_set]
 have h3:(m.sp.map fun s=>(bA s.tb).countP (jZ kd i))[p]'(by simpa using hp)=(bA (bI m p).tb).countP (jZ kd i):=by
  rw[List.getElem_map]
  have:=tQ hp
  rw[List.getElem?_eq_getElem hp] at this
  rw[Option.some.inj this]
 rw[h3] at h2
 have h4:qO (jZ kd i (ent m p n))=qO (jZ kd i (bT (bI m p).tb n)):=rfl
 simp only
 omega
theorem Kr {l:List Nat}:0<l.sum↔∃k,∃h:k<l.length,0<l[k]:=by
 induction l with
 | nil=>simp
 | cons a l ih=>
  rw[List.sum_cons]
  constructor
  ·intro h
   by_cases ha:0<a
   ·exact⟨0,by simp,by simpa using ha⟩
   ·obtain⟨k,hk,hx⟩:=ih.1 (by omega)
    exact⟨k+1,by simpa using hk,by simpa using hx⟩
  ·rintro⟨k,hk,hx⟩
   cases k with
   | zero=>simp at hx;omega
   | succ k=>
    have:=ih.2 ⟨k,by simpa using hk,by simpa using hx⟩
    omega
theorem iL {m:Ma} {kd i:Int} (hk:kd≠0):0<bP m kd i↔∃p n,p<m.sp.length∧(0≤n∧n<64)∧(ent m p n).k=kd∧(ent m p n).n=i:=by
 unfold bP
 rw[Kr]
 constructor
 ·rintro⟨p,hp,h⟩
  have hp' : p<m.sp.length:=by simpa using hp
  rw[List.getElem_map] at h
  obtain⟨e,he,hq⟩:=List.countP_pos_iff.1 h
  obtain⟨j,hj,rfl⟩:=List.mem_iff_getElem.1 he
  have hj' : j<64:=by rw[iU] at hj;exact hj
  have hs:m.sp[p]=bI m p:=by
   have:=tQ hp'
   rw[List.getElem?_eq_getElem hp'] at this
   exact Option.some.inj this
  have h5:=rV m.sp[p].tb j hj'
  rw[List.getElem?_eq_getElem hj] at h5
  rw[Option.some.inj h5,hs] at hq
  unfold jZ at hq
  simp only[Bool.and_eq_true,decide_eq_true_eq] at hq
  exact⟨p,j,hp',by omega,hq.1,hq.2⟩
 ·rintro⟨p,n,hp,hn,h1,h2⟩
  refine⟨p,by simpa using hp,?_⟩
  rw[List.getElem_map,List.countP_pos_iff]
  have hs:m.sp[p]=bI m p:=by
   have:=tQ hp
   rw[List.getElem?_eq_getElem hp] at this
   exact Option.some.inj this
  refine⟨ent m p n,?_,by unfold jZ;rw[h1,h2];simp⟩
  rw[hs]
  have h5:=rV (bI m p).tb n.toNat (by omega)
  rw[Int.toNat_of_nonneg hn.1] at h5
  exact List.mem_of_getElem? h5
theorem zB {m:Ma} {f:Nat} (h:f<m.m.fs.length):m.m.fs[f]?=some (bn m f):=by
 unfold bn;rw[List.getD_eq_getElem?_getD,List.getElem?_eq_getElem h];rfl
theorem KI {m:Ma} {f:Nat} (h:f<m.m.fs.length):bn m f∈m.m.fs:=List.mem_of_getElem? (zB h)
theorem Kc {m:Ma} {f:Nat} (h:m.m.fs.length≤f):bn m f=fr0:=by
 unfold bn;rw[List.getD_eq_getElem?_getD,List.getElem?_eq_none h];rfl
theorem uX {m:Ma} {f:Nat} {x:Fr} (h:f<m.m.fs.length) (g:Nat):bn (setFr m f x) g=if g=f then x else bn m g:=by
 unfold bn setFr
 simp only
 rw[List.getD_eq_getElem?_getD,List.getElem?_set]
 by_cases e:g=f
 ·subst e;rw[if_pos rfl,if_pos h,if_pos rfl];rfl
 ·rw[if_neg (fun e'=>e e'.symm),if_neg e,List.getD_eq_getElem?_getD]
theorem mK {m:Ma} {f:Nat} {x:Fr}:(setFr m f x).m.fs.length=m.m.fs.length:=List.length_set
theorem Pt.frE {m:Ma} (h:Pt m) {f:Nat} (hf:f<m.m.fs.length):dn (bn m f)=0:=((dR _).1 h.fr).2.1 _ (KI hf)
theorem Pt.setFr {m:Ma} (h:Pt m) {f:Nat} {x:Fr} (hx:dn x=0):Pt (setFr m f x):={ h with fr:=Jg h.fr hx }
theorem Be {x:Fr} {n:Int} (h:dn x=0) (hr:x.r≠0) (h1 : -x.r≤n) (h2:n≤1000-x.r):dn (iM x n)=0:=by
 unfold iM
 by_cases h0:x.r+n=0
 ·rw[if_pos h0];decide
 ·rw[if_neg h0,ig]
  have:=(ig x).1 h
  refine⟨by simp only;omega,fun h3=>absurd h3 h0,this.2.2⟩
theorem GM {m:Mem} {k n:Int} (h:cz m=0) (hk:0≤k∧k<m.fs.length) (hr:(m.fs.getD k.toNat fr0).r≠0) (h1 : -(m.fs.getD k.toNat fr0).r≤n) (h2:n≤1000-(m.fs.getD k.toNat fr0).r):iY m k n=0:=by
 unfold iY
 rw[if_neg (by rw[h];simp),if_neg (by omega),if_neg (by omega)]
theorem BB {k:Kp} {f:Nat} {n:Int} (h:Pt k.m) (hf:f<k.m.m.fs.length) (hr:(bn k.m f).r≠0) (h1 : -(bn k.m f).r≤n) (h2:n≤1000-(bn k.m f).r) :
  eU k f n=⟨setFr k.m f (iM (bn k.m f) n),k.e⟩∧Pt (setFr k.m f (iM (bn k.m f) n)):=by
 have h0:iY k.m.m (f:Int) n=0:=GM h.fr (by omega) hr h1 h2
 refine⟨?_,h.setFr (Be (h.frE hf) hr h1 h2)⟩
 unfold eU
 rw[if_pos h0]
 congr 1
 unfold jd
 rw[if_pos h0]
 rfl
def fB (m:Ma) (s:Nat):Int:=m.sl.getD s 0
def setSl (m:Ma) (s:Nat) (n:Int):Ma:={ m with sl:=m.sl.set s n }
theorem LD {m:Ma} {f:Nat} (h:f<m.sl.length):m.sl[f]?=some (fB m f):=by
 unfold fB;rw[List.getD_eq_getElem?_getD,List.getElem?_eq_getElem h];rfl
theorem yS {m:Ma} {f:Nat} {x:Int} (h:f<m.sl.length) (g:Nat):fB (setSl m f x) g=if g=f then x else fB m g:=by
 unfold fB setSl
 simp only
 rw[List.getD_eq_getElem?_getD,List.getElem?_set]
 by_cases e:g=f
 ·subst e;rw[if_pos rfl,if_pos h,if_pos rfl];rfl
 ·rw[if_neg (fun e'=>e e'.symm),if_neg e,List.getD_eq_getElem?_getD]
theorem Pt.slB {m:Ma} (h:Pt m) (s:Nat):0≤fB m s∧fB m s≤1000:=by
 rcases Nat.lt_or_ge s m.sl.length with hs|hs
 ·have:=vX h.sl _ (List.mem_of_getElem? (LD hs))
  unfold kX at this
  simp only[Bool.or_eq_false_iff,decide_eq_false_iff_not] at this
  omega
 ·unfold fB;rw[List.getD_eq_getElem?_getD,List.getElem?_eq_none hs];simp
theorem Pt.setSl {m:Ma} (h:Pt m) {s:Nat} {n:Int} (h0:0≤n) (h1:n≤1000):Pt (setSl m s n):=
 { h with sl:=CP s n h.sl h0 h1,swl:=h.swl.trans List.length_set.symm }
theorem FD {k:Kp} {s:Nat} {n:Int} (h:Pt k.m) (hs:s<k.m.sl.length) (hr:fB k.m s≠0) (h1 : -(fB k.m s)≤n) (h2:n≤1000-fB k.m s) :
  mW k s n=⟨setSl k.m s (fB k.m s+n),k.e⟩∧Pt (setSl k.m s (fB k.m s+n)):=by
 have e1:xA k.m.sl (s:Int)=fB k.m s:=rfl
 have h0:bC k.m.sl (s:Int) n=0:=by
  unfold bC
  rw[if_neg (by rw[h.sl];simp),if_neg (by rw[e1];omega),if_neg (by rw[e1];omega)]
 refine⟨?_,h.setSl (by omega) (by omega)⟩
 unfold mW
 rw[if_pos h0]
 congr 1
 unfold bi
 rw[if_pos h0]
 rfl
theorem fQ {k:Kp} {p:Nat} {n:Int} {x:En} (h:Pt k.m) (hn:0≤n∧n<64) (hx:dm x=0) :
  setE (bI k.m p).tb n x=0∧fq k p n x=⟨setTb k.m p (setT (bI k.m p).tb n x),k.e⟩∧Pt (setTb k.m p (setT (bI k.m p).tb n x)):=by
 have h0:=DL (h.tbN p) hn hx
 refine⟨h0,?_,h.setTb (qp h0)⟩
 unfold fq
 rw[if_pos h0]
theorem jl {m:Ma} {p:Nat} {n:Int} {x:En} (hp:p<m.sp.length) (h:setE (bI m p).tb n x=0) (q:Nat) (j:Int):ent (setTb m p (setT (bI m p).tb n x)) q j=if q=p∧j=n then x else ent m q j:=by
 rw[Fa hp]
 by_cases e:q=p
 ·subst e
  rw[if_pos rfl,Jt h]
  by_cases e2:j=n
  ·rw[if_pos e2,if_pos ⟨rfl,e2⟩]
  ·rw[if_neg e2,if_neg (fun h'=>e2 h'.2)];rfl
 ·rw[if_neg e,if_neg (fun h'=>e h'.1)]
structure fV (m m' : Ma):Prop where
 len:m'.sp.length=m.sp.length
 lv:∀p,(bI m' p).lv=(bI m p).lv
 ar:∀p,(bI m' p).ar=(bI m p).ar
theorem fV.refl (m:Ma):fV m m:=⟨rfl,fun _=>rfl,fun _=>rfl⟩
theorem fV.trans {a b c:Ma} (h:fV a b) (k:fV b c):fV a c:=⟨k.len.trans h.len,fun p=>(k.lv p).trans (h.lv p),fun p=>(k.ar p).trans (h.ar p)⟩
theorem fV.of {m m' : Ma} (h:m'.sp=m.sp):fV m m':=⟨by rw[h],fun p=>by unfold bI;rw[h],fun p=>by unfold bI;rw[h]⟩
theorem fV.setTb {m:Ma} {p:Nat} {t:Tb}:fV m (setTb m p t):=by
 by_cases hp:p<m.sp.length
 ·refine⟨pF,fun q => ?_,fun q => ?_⟩
  all_goals
   rw[xO hp]
   by_cases e:q=p
   ·rw[if_pos e,e]
   ·rw[if_neg e]
 ·have:Go.Proofs.Ytkjobhcnlppcnaa.setTb m p t=m:=by
   unfold Go.Proofs.Ytkjobhcnlppcnaa.setTb
   rw[List.set_eq_of_length_le (by omega)]
  rw[this];exact .refl _
theorem FH {α β:Type} {f:α→β} (hf:∀a b,f a=f b→a=b) {l:List α} (h:l.Nodup):(l.map f).Nodup:=List.Pairwise.map _ (fun a b hne e=>hne (hf a b e)) h
theorem gH {t:Tb} {n:Int}:n∈aF t↔(0≤n∧n<64)∧(bT t n).k≠0:=by
 unfold aF fD
 simp only[List.mem_map,List.mem_filter,List.mem_range,je,decide_eq_true_eq]
 constructor
 ·rintro⟨j,⟨h1,h2⟩,rfl⟩
  exact⟨by omega,h2⟩
 ·rintro⟨h1,h2⟩
  refine⟨n.toNat,⟨by omega,?_⟩,by omega⟩
  rw[Int.toNat_of_nonneg h1.1];exact h2
theorem zU (t:Tb):(aF t).Nodup:=by
 unfold aF fD
 exact FH (fun a b h=>by have h' : (a:Int)=b:=h;omega) (List.nodup_range.filter _)
theorem Bg {t:Tb} {kd i:Int} (hk:kd≠0):(Ec t kd i).length=(bA t).countP (jZ kd i):=by
 unfold Ec aF fD bA
 rw[←List.countP_eq_length_filter,List.countP_map,List.countP_filter,List.countP_map]
 congr 1
 funext n
 simp only[Function.comp_apply,zK,jZ,je,Bool.not_or]
 rw[Bool.eq_iff_iff]
 simp only[Bool.and_eq_true,Bool.not_eq_true',decide_eq_false_iff_not,Classical.not_not,decide_eq_true_eq]
 constructor
 ·rintro⟨h,_⟩;exact h
 ·intro h;exact⟨h,by rw[h.1];exact hk⟩
def Ay (s:St) (f i:Int):Prop:=(0≤f∧f<s.fs.length)∧0≤i∧i<(fileAt s f).b.length
theorem jP {s:St} {F:Nat} {x:Fi} (h:s.fs[F]?=some x):fileAt s F=x:=by
 unfold fileAt
 rw[if_pos (by omega),Int.toNat_natCast,List.getD_eq_getElem?_getD,h];rfl
theorem Bo {s:St} {f:Int} (h:0≤f∧f<s.fs.length):s.fs[f.toNat]?=some (fileAt s f):=by
 unfold fileAt
 rw[if_pos h.1,List.getD_eq_getElem?_getD,List.getElem?_eq_getElem (by omega)];rfl
theorem ve {s:St} (h:aP s=0) {f:Int} (hf:0≤f∧f<s.fs.length):wm s.count (fileAt s f):=(lY.1 h).2.1 _ (List.mem_of_getElem? (Bo hf))
theorem zu {s:St} (h:aP s=0) {f i:Int} (hi:Ay s f i):f<5∧i<12∧i*8<(fileAt s f).n∧(fileAt s f).n≤96:=by
 have h1:=(lY.1 h).1
 obtain⟨a1,a2,a3,_⟩:=ve h hi.1
 have h2:=hi.1;have h3:=hi.2
 rw[a3] at h3
 unfold dh at h3
 split at h3<;>omega
theorem Ay.same {s s' : St} {f i:Int} (h:Ay s f i) (h1:s'.fs.length=s.fs.length) (h2:∀g,(fileAt s' g).b.length=(fileAt s g).b.length):Ay s' f i:=⟨by rw[h1];exact h.1,by rw[h2];exact h.2⟩
def iK (m:Ma) (p:Nat) (n:Int):Option Pg:=onA (bI m p).ar n
def xz (a b:Cc):Prop:=a.f<b.f∨a.f=b.f∧a.i<b.i
def KE (x:Fr) (g:Pg) (w:Bool):Prop:=
 (0≤x.f→x.f=g.fi∧x.i=g.pg)∧(g.sh=true→0≤x.f)∧(w=true→g.wr=true)∧(w=true→0≤x.f→g.sh=true)∧(w=true→x.f<0→x.r≤1)
structure Jz (m:Ma) (g:Pg) (e:En):Prop where
 sw:e.k=2→e.n<m.sl.length∧g.sh=false
 lt:e.k=1→e.n<m.m.fs.length
 fr:e.k=1→KE (bn m e.n.toNat) g e.w
structure sD (m:Ma):Prop where
 file:∀c∈m.ca,Ay m.st c.f c.i
 lt:∀c∈m.ca,0≤c.k∧c.k<m.m.fs.length
 fr:∀c∈m.ca,1≤(bn m c.k.toNat).r∧(bn m c.k.toNat).f=c.f∧(bn m c.k.toNat).i=c.i
 srt:m.ca.Pairwise xz
def qM (m:Ma) (i:Int):Nat:=m.ca.countP fun c=>decide (c.k=i)
structure Rt (m:Ma):Prop where
 pt:Pt m
 trim:(∀b:Int,0≤b→b<m.dk.blocks.length→b∈jV m.st∨m.dk.blocks.getD b.toNat zPg=zPg)∧∀q∈m.dk.queue,q.1∈jV m.st
 live:∀p,(bI m p).lv=false→(bI m p).ar=[]∧∀n,(ent m p n).k=0
 ca:sD m
 en:∀p n,(ent m p n).k≠0→∃g,iK m p n=some g∧Jz m g (ent m p n)
 cf:∀i:Nat,i<m.m.fs.length→(bn m i).r=qM m i+bP m 1 i
 fc:∀i:Nat,i<m.m.fs.length→0≤(bn m i).f→∃c∈m.ca,c.k=i
 cs:∀s:Nat,s<m.sl.length→fB m s=bP m 2 s
structure Co (m:Ma):Prop where
 tail:∀c∈m.ca,dK (bn m c.k.toNat).p ((fileAt m.st c.f).n-c.i*8)=(bn m c.k.toNat).p
 clean:∀c∈m.ca,(bn m c.k.toNat).d=false→(bn m c.k.toNat).p=ji m c.f c.i
 anon:∀i:Nat,i<m.m.fs.length→(bn m i).d=true→0≤(bn m i).f
def fO (m:Ma) (p:Nat) (n:Int):Page × Bool × Int:=
 match iK m p n with
 | none=>(zPg,false,5)
 | some g=>
  if (ent m p n).k=1 then ((jI m (ent m p n).n).p,decide ((jI m (ent m p n).n).f<0),0)
  else if (ent m p n).k=2 then (iy m.sw (ent m p n).n,true,eX m.sw (ent m p n).n)
  else if g.fi<0 then (zPg,false,0)
  else if (m.st.fs.length:Int)≤g.fi∨ui m.st g.fi g.pg=true then (zPg,false,9)
  else (aX m g.fi g.pg,false,0)
theorem JX (a:Cc):¬xz a a:=fun h=>by unfold xz at h;omega
theorem srt_eq:∀ {l:List Cc},l.Pairwise xz→∀ {a b:Cc},a∈l→b∈l→a.f=b.f→a.i=b.i→a=b
 | [],_,_,_,h,_,_,_=>by cases h
 | c::l,hs,a,b,ha,hb,e1,e2=>by
  obtain⟨h1,h2⟩:=List.pairwise_cons.1 hs
  rcases List.mem_cons.1 ha with e|ha<;>rcases List.mem_cons.1 hb with e' | hb
  ·rw[e,e']
  ·have:=h1 b hb;rw[e] at e1 e2;unfold xz at this;omega
  ·have:=h1 a ha;rw[e'] at e1 e2;unfold xz at this;omega
  ·exact srt_eq h2 ha hb e1 e2
theorem sD.uniq {m:Ma} (h:sD m) {a b:Cc} (ha:a∈m.ca) (hb:b∈m.ca) (hk:a.k=b.k):a=b:=by
 have h1:=h.fr a ha
 have h2:=h.fr b hb
 rw[hk] at h1
 exact srt_eq h.srt ha hb (h1.2.1.symm.trans h2.2.1) (h1.2.2.symm.trans h2.2.2)
theorem sQ {k:Int}:∀ {l:List Cc},l.Pairwise xz→(∀a∈l,∀b∈l,a.k=b.k→a=b)→l.countP (fun c=>decide (c.k=k))≤1
 | [],_,_=>Nat.zero_le _
 | c::l,hs,hu=>by
  obtain⟨h1,h2⟩:=List.pairwise_cons.1 hs
  have ih:=sQ (k:=k) h2 (fun a ha b hb=>hu a (List.mem_cons_of_mem _ ha) b (List.mem_cons_of_mem _ hb))
  rw[List.countP_cons]
  by_cases hc:c.k=k
  ·rw[if_pos (by simpa using hc)]
   have:l.countP (fun c=>decide (c.k=k))=0:=by
    rw[List.countP_eq_zero]
    intro d hd hdk
    have e:=hu c List.mem_cons_self d (List.mem_cons_of_mem _ hd) (by rw[hc];exact (of_decide_eq_true hdk).symm)
    have:=h1 d hd
    rw[←e] at this
    exact JX _ this
   omega
  ·rw[if_neg (by simpa using hc)];omega
theorem sD.one {m:Ma} (h:sD m) {c:Cc} (hc:c∈m.ca):qM m c.k=1:=by
 have h1:=sQ (k:=c.k) h.srt (fun a ha b hb=>h.uniq ha hb)
 have h2:0<m.ca.countP (fun d=>decide (d.k=c.k)):=List.countP_pos_iff.2 ⟨c,hc,by simp⟩
 unfold qM;omega
theorem za {f i:Int} {c:Cc}:Gh f i c=true↔f<c.f∨c.f=f∧i≤c.i:=by unfold Gh;simp
theorem GG (l:List Cc) (f i:Int):BN l f i≤l.length:=by
 unfold BN
 cases h:l.findIdx? (Gh f i) with
 | none=>exact Nat.le_refl _
 | some k=>exact Nat.le_of_lt (List.findIdx?_eq_some_iff_getElem.1 h).1
def uK (m:Ma) (f i:Int):Option Cc:=m.ca.find? fun c=>decide (c.f=f)&&decide (c.i=i)
theorem FR {m:Ma} (h:sD m) {c:Cc} (hc:c∈m.ca):uK m c.f c.i=some c:=by
 cases hl:uK m c.f c.i with
 | none=>
  have:=List.find?_eq_none.1 hl c hc
  simp at this
 | some d=>
  have h1:=List.find?_some hl
  simp only[Bool.and_eq_true,decide_eq_true_eq] at h1
  rw[srt_eq h.srt (List.mem_of_find?_eq_some hl) hc h1.1 h1.2]
theorem EU {m:Ma} {f i:Int} (h:∀c∈m.ca,¬(c.f=f∧c.i=i)):uK m f i=none:=by
 unfold uK
 rw[List.find?_eq_none]
 intro c hc hk
 simp only[Bool.and_eq_true,decide_eq_true_eq] at hk
 exact h c hc hk
theorem Cq (m:Ma) (f i:Int):(∃c,uK m f i=some c∧c∈m.ca∧c.f=f∧c.i=i)∨(uK m f i=none∧∀c∈m.ca,¬(c.f=f∧c.i=i)):=by
 cases hl:uK m f i with
 | none=>
  refine .inr ⟨rfl,fun c hc hk => ?_⟩
  have:=List.find?_eq_none.1 hl c hc
  simp only[Bool.and_eq_true,decide_eq_true_eq] at this
  exact this hk
 | some d=>
  have h1:=List.find?_some hl
  simp only[Bool.and_eq_true,decide_eq_true_eq] at h1
  exact .inl ⟨d,rfl,List.mem_of_find?_eq_some hl,h1⟩
theorem vL (m:Ma) (f i:Int):aX m f i=match uK m f i with
  | some c=>(jI m c.k).p
  | none=>ji m f i:=rfl
theorem wB {m:Ma} (h:sD m) {c:Cc} (hc:c∈m.ca):aX m c.f c.i=(bn m c.k.toNat).p:=by
 rw[vL,FR h hc];rfl
theorem uz {m:Ma} {f i:Int} (h:∀c∈m.ca,¬(c.f=f∧c.i=i)):aX m f i=ji m f i:=by
 rw[vL,EU h]
theorem xy {m:Ma} (k:Nat):jI m (k:Int)=bn m k:=rfl
theorem yU {l:List Ar} {n:Int} (h:0≤eY l n):onA l n=some (fZ (l.getD (eY l n).toNat zAr) n)∧jH n (l.getD (eY l n).toNat zAr)=true:=by
 induction l with
 | nil=>unfold eY idx at h;simp at h
 | cons a r ih=>
  rw[bJ]
  by_cases ha:jH n a=true
  ·have h0:eY (a::r) n=0:=by unfold eY idx;rw[List.findIdx?_cons,if_pos ha];rfl
   rw[h0,if_pos ha]
   exact⟨rfl,ha⟩
  ·have h1:eY (a::r) n=if 0≤eY r n then eY r n+1 else -1:=by
    unfold eY idx
    rw[List.findIdx?_cons,if_neg ha]
    cases r.findIdx? (jH n) with
    | none=>rfl
    | some k=>
     simp only[Option.map_some]
     rw[if_pos (by omega)]
     rfl
   rw[if_neg ha]
   by_cases h2:0≤eY r n
   ·rw[h1,if_pos h2]
    have e:(eY r n+1).toNat=(eY r n).toNat+1:=by omega
    rw[e]
    exact ih h2
   ·rw[h1,if_neg h2] at h
    omega
def De (m:Ma) (g:Pg) (e:En):Page × Bool × Int:=
 if e.k=1 then ((jI m e.n).p,decide ((jI m e.n).f<0),0)
 else if e.k=2 then (iy m.sw e.n,true,eX m.sw e.n)
 else if g.fi<0 then (zPg,false,0)
 else if (m.st.fs.length:Int)≤g.fi∨ui m.st g.fi g.pg=true then (zPg,false,9)
 else (aX m g.fi g.pg,false,0)
theorem oN {m:Ma} {p:Nat} {n:Int} {g:Pg} (h:iK m p n=some g):fO m p n=De m g (ent m p n):=by
 unfold fO;rw[h];rfl
theorem pR {m:Ma} {p:Nat} {n:Int} (h:iK m p n=none):fO m p n=(zPg,false,5):=by
 unfold fO;rw[h]
theorem pg_in:∀ {l:List Ar} {lo:Int} {n:Int} {g:Pg},srtF lo l→onA l n=some g→0≤g.pg∧g.pg<12∧-1≤g.fi∧g.fi<5∧(g.fi<0→g.sh=false∧g.pg=0)∧0≤n∧n<64
 | [],_,_,_,_,h=>by cases h
 | a::r,lo,n,g,hs,h=>by
  rw[bJ] at h
  by_cases ha:jH n a=true
  ·rw[if_pos ha] at h
   have h1:=bQ.1 ha
   have h2:=hs.1
   unfold aL at h2
   split at h2
   ·cases h2
   ·split at h2
    ·cases h2
    ·rename_i h3 h4
     cases h
     unfold fZ
     simp only
     have h5:¬(a.fi<0∧(a.ba≠0∨a.sh=true)):=fun h=>h4 (.inl h)
     have h6:¬(0≤a.fi∧12-(a.en-a.fr)<a.ba):=fun h=>h4 (.inr h)
     refine⟨?_,?_,by omega,by omega,fun h7=>⟨?_,if_neg (by omega)⟩,by omega,by omega⟩
     ·split<;>omega
     ·split<;>omega
     ·cases hsh:a.sh with
      | false=>rfl
      | true=>exact absurd ⟨h7,.inr hsh⟩ h5
  ·rw[if_neg ha] at h
   exact pg_in hs.2.2 h
theorem Pt.pg {m:Ma} (h:Pt m) {p:Nat} {n:Int} {g:Pg} (hg:iK m p n=some g):0≤g.pg∧g.pg<12∧-1≤g.fi∧g.fi<5∧(g.fi<0→g.sh=false∧g.pg=0)∧0≤n∧n<64:=
 pg_in (iO (eQ.1 (h.arN p)).2) hg
theorem Ep {s:St} (h:aP s=0) {f i:Int} (hf:0≤f) (hi:0≤i) (hn:¬((s.fs.length:Int)≤f∨ui s f i=true)):Ay s f i:=by
 have h1:¬(s.fs.length:Int)≤f:=fun h=>hn (.inl h)
 have h2:¬ui s f i=true:=fun h=>hn (.inr h)
 have h3:=(ve h (f:=f) (by omega)).2.2.1
 refine⟨by omega,hi,?_⟩
 rw[h3]
 unfold ui at h2
 simpa using h2
theorem BU {s:St} (h:aP s=0) {f i:Int} (hi:Ay s f i):¬((s.fs.length:Int)≤f∨ui s f i=true):=by
 have h3:=(ve h hi.1).2.2.1
 have h4:=hi.1;have h5:=hi.2
 rintro (h|h)
 ·omega
 ·unfold ui at h
  have:=of_decide_eq_true h
  omega
structure rA (s s' : St):Prop where
 len:s'.fs.length=s.fs.length
 size:∀f,(fileAt s' f).n=(fileAt s f).n
 lenb:∀f,(fileAt s' f).b.length=(fileAt s f).b.length
theorem rA.refl (s:St):rA s s:=⟨rfl,fun _=>rfl,fun _=>rfl⟩
theorem Fq {s s' : St} (h:rA s s') (f i:Int):ui s' f i=ui s f i:=by unfold ui;rw[h.size]
theorem Bj {m m' : Ma} {g:Pg} {e:En} (hw:aP m.st=0) (hg:0≤g.pg) (hf:rA m.st m'.st) (hc:∀f i,Ay m.st f i→aX m' f i=aX m f i)
  (h1:e.k=1→(jI m' e.n).p=(jI m e.n).p∧(jI m' e.n).f=(jI m e.n).f) (h2:e.k=2→iy m'.sw e.n=iy m.sw e.n∧eX m'.sw e.n=eX m.sw e.n):De m' g e=De m g e:=by
 unfold De
 by_cases k1:e.k=1
 ·rw[if_pos k1,if_pos k1,(h1 k1).1,(h1 k1).2]
 ·rw[if_neg k1,if_neg k1]
  by_cases k2:e.k=2
  ·rw[if_pos k2,if_pos k2,(h2 k2).1,(h2 k2).2]
  ·rw[if_neg k2,if_neg k2,hf.len,Fq hf]
   by_cases g0:g.fi<0
   ·rw[if_pos g0,if_pos g0]
   ·rw[if_neg g0,if_neg g0]
    by_cases he:(m.st.fs.length:Int)≤g.fi∨ui m.st g.fi g.pg=true
    ·rw[if_pos he,if_pos he]
    ·rw[if_neg he,if_neg he,hc _ _ (Ep hw (by omega) hg he)]
theorem jr (n:Int):bT zTb n=zEn:=by
 by_cases h:0≤n∧n<64
 ·obtain⟨q,r,hq,hr,rfl,_,_⟩:=pW h
  exact uj hq hr (by simp[zTb])
 ·exact lm (by omega)
theorem LM {m m' : Ma} (h:m'.m=m.m) (g:Nat):bn m' g=bn m g:=by unfold bn;rw[h]
theorem jC {m:Ma} {p:Nat} {n:Int} (h:(ent m p n).k≠0):p<m.sp.length∧0≤n∧n<64:=by
 refine⟨?_,?_⟩
 ·rcases Nat.lt_or_ge p m.sp.length with hp|hp
  ·exact hp
  ·refine absurd ?_ h
   unfold ent
   rw[iT hp,show zSp.tb=zTb from rfl,jr];rfl
 ·by_cases hn:n<0∨64≤n
  ·exact absurd (by rw[rW p hn];rfl) h
  ·omega
theorem zI {α:Type} {q:α→Bool} {l:List α} (h:0≤idx q l):∃k:Nat,idx q l=k∧∃hk:k<l.length,q l[k]=true:=by
 unfold idx at h ⊢
 cases hf:l.findIdx? q with
 | none=>rw[hf] at h;simp at h
 | some k=>
  obtain⟨hk,hq,_⟩:=List.findIdx?_eq_some_iff_getElem.1 hf
  exact⟨k,rfl,hk,hq⟩
theorem El (p:Page) (n:Int):dK (dK p n) n=dK p n:=by
 apply Vector.ext
 intro i hi
 simp only[dK,Vector.getElem_ofFn]
 split<;>rfl
theorem Jw (n:Int):dK zPg n=zPg:=by
 apply Vector.ext
 intro i hi
 simp only[dK,Vector.getElem_ofFn]
 have hz:zPg[i]=0:=by
  match i,hi with
  | 0,_=>rfl
  | 1,_=>rfl
  | 2,_=>rfl
  | 3,_=>rfl
  | 4,_=>rfl
  | 5,_=>rfl
  | 6,_=>rfl
  | 7,_=>rfl
  | n+8,h=>omega
 split<;>rw[hz]
theorem Fy (m:Ma) (f i:Int):dK (ji m f i) ((fileAt m.st f).n-i*8)=ji m f i:=by
 unfold ji
 split
 ·exact El _ _
 ·exact Jw _
theorem wZ {f i k:Int}:∀ {l:List Cc},l.Pairwise xz→(∀c∈l,¬(c.f=f∧c.i=i))→(l.insertIdx (BN l f i) ⟨f,i,k⟩).Pairwise xz
 | [],_,_=>by simp[BN]
 | c::l,hs,hno=>by
  obtain⟨h1,h2⟩:=List.pairwise_cons.1 hs
  have hnc:=hno c List.mem_cons_self
  by_cases hg:Gh f i c=true
  ·have:BN (c::l) f i=0:=by unfold BN;rw[List.findIdx?_cons,if_pos hg];rfl
   rw[this,List.insertIdx_zero]
   have hlt:xz ⟨f,i,k⟩ c:=by
    have:=za.1 hg
    unfold xz
    simp only
    omega
   refine List.pairwise_cons.2 ⟨fun d hd => ?_,hs⟩
   rcases List.mem_cons.1 hd with rfl|hd
   ·exact hlt
   ·have:=h1 d hd
    unfold xz at this hlt ⊢
    omega
  ·have:BN (c::l) f i=BN l f i+1:=by
    unfold BN
    rw[List.findIdx?_cons,if_neg hg]
    cases l.findIdx? (Gh f i)<;>rfl
   rw[this,List.insertIdx_succ_cons]
   refine List.pairwise_cons.2 ⟨fun d hd => ?_,wZ h2 fun d hd=>hno d (List.mem_cons_of_mem _ hd)⟩
   rcases (List.mem_insertIdx (GG l f i)).1 hd with rfl|hd
   ·have:¬(f<c.f∨c.f=f∧i≤c.i):=fun h=>hg (za.2 h)
    unfold xz
    simp only
    omega
   ·exact h1 d hd
theorem qd {α:Type} (q:α→Bool) (x:α):∀(l:List α) (j:Nat),j≤l.length→(l.insertIdx j x).countP q=l.countP q+qO (q x)
 | l,0,_=>by rw[List.insertIdx_zero,List.countP_cons];rfl
 | [],j+1,h=>by simp at h
 | a::l,j+1,h=>by
  rw[List.insertIdx_succ_cons,List.countP_cons,List.countP_cons,qd q x l j (by simpa using h)]
  omega
theorem firstE_zero:∀ {l:List Int},firstE l=0↔∀x∈l,x=0
 | []=>by simp[firstE]
 | x::l=>by
  unfold firstE
  by_cases hx:x=0
  ·rw[if_pos hx,firstE_zero]
   constructor
   ·intro h y hy
    rcases List.mem_cons.1 hy with e|hy
    ·rw[e,hx]
    ·exact h y hy
   ·exact fun h y hy=>h y (List.mem_cons_of_mem _ hy)
  ·rw[if_neg hx]
   exact⟨fun h=>absurd h hx,fun h=>absurd (h x List.mem_cons_self) hx⟩
theorem iW {p:Prop} [Decidable p] {a b:Int} (ha:a≠0):(if p then a else b)=0↔¬p∧b=0:=by
 by_cases h:p
 ·rw[if_pos h];exact⟨fun h'=>absurd h' ha,fun h'=>absurd h h'.1⟩
 ·rw[if_neg h];exact⟨fun h'=>⟨h,h'⟩,fun h'=>h'.2⟩
theorem iP {a b:Int}:(if a≠0 then a else b)=0↔a=0∧b=0:=by
 by_cases h:a=0
 ·rw[if_neg (fun h'=>h' h)];exact⟨fun h'=>⟨h,h'⟩,fun h'=>h'.2⟩
 ·rw[if_pos h];exact⟨fun h'=>absurd h' h,fun h'=>absurd h'.1 h⟩
theorem uo {s:Sp}:fM s=0↔(aT s.ar).1=0∧bB s.tb=0∧(s.lv=false→s.ar=[]∧∀n,(bT s.tb n).k=0):=by
 unfold fM
 rw[iP,iP,iW (by decide)]
 refine and_congr_right fun _=>and_congr_right fun _ => ?_
 constructor
 ·rintro⟨h,_⟩ hl
  have h1:s.ar.length+(aF s.tb).length=0:=by
   rcases Nat.eq_zero_or_pos (s.ar.length+(aF s.tb).length) with h0|h0
   ·exact h0
   ·exact absurd ⟨hl,h0⟩ h
  refine⟨List.eq_nil_of_length_eq_zero (by omega),fun n => ?_⟩
  by_cases hn:0≤n∧n<64
  ·have h2:aF s.tb=[]:=List.eq_nil_of_length_eq_zero (by omega)
   by_cases hk:(bT s.tb n).k=0
   ·exact hk
   ·have:=gH.2 ⟨hn,hk⟩
    rw[h2] at this;cases this
  ·rw[lm (by omega)];rfl
 ·refine fun h=>⟨?_,rfl⟩
  rintro⟨hl,h0⟩
  obtain⟨h1,h2⟩:=h hl
  have h3:aF s.tb=[]:=by
   rw[List.eq_nil_iff_forall_not_mem]
   intro n hn
   exact (gH.1 hn).2 (h2 n)
  rw[h1,h3] at h0
  exact absurd h0 (by simp)
theorem yL {m:Ma}:trimB m=true↔(∀b:Int,0≤b→b<m.dk.blocks.length→b∈jV m.st∨m.dk.blocks.getD b.toNat zPg=zPg)∧∀q∈m.dk.queue,q.1∈jV m.st:=by
 unfold trimB
 rw[Bool.and_eq_true,List.all_eq_true,List.all_eq_true]
 refine and_congr ⟨fun h b h0 hb => ?_,fun h b hb => ?_⟩ ⟨fun h q hq=>by simpa using h q hq,fun h q hq=>by simpa using h q hq⟩
 ·have:=h b.toNat (List.mem_range.2 (by omega))
  rw[Int.toNat_of_nonneg h0] at this
  simpa using this
 ·have:=h (b:Int) (by omega) (by have:=List.mem_range.1 hb;omega)
  simpa using this
theorem nU {m:Ma}:dZ m=0↔Pt m∧trimB m=true∧∀s∈m.sp,s.lv=false→s.ar=[]∧∀n,(bT s.tb n).k=0:=by
 unfold dZ
 rw[iP,iP,iP,iP,iP,iW (by decide),iW (by decide),firstE_zero]
 constructor
 ·rintro⟨h1,h2,h3,h4,h5,h6,h7,h8⟩
  have h9:∀s∈m.sp,_:=fun s hs=>uo.1 (h8 _ (List.mem_map_of_mem hs))
  refine⟨⟨h1,h2,h3,h4,h5,?_,?_,by omega,fun s hs=>(h9 s hs).1,fun s hs=>(h9 s hs).2.1⟩,?_,fun s hs=>(h9 s hs).2.2⟩
  ·exact Classical.byContradiction fun h=>h6 (.inl h)
  ·exact Classical.byContradiction fun h=>h6 (.inr (.inl h))
  ·cases h:trimB m with
   | true=>rfl
   | false=>exact absurd (.inr (.inr h)) h6
 ·rintro⟨h,ht,hl⟩
  refine⟨h.fr,h.sl,h.sw,h.dk,h.st,?_,by have:=h.spl;omega,?_⟩
  ·rintro (h1|h1|h1)
   ·exact h1 h.swl
   ·exact h1 h.dkl
   ·rw[ht] at h1;cases h1
  ·intro x hx
   obtain⟨s,hs,rfl⟩:=List.mem_map.1 hx
   exact uo.2 ⟨h.ar s hs,h.tb s hs,hl s hs⟩
theorem oq {m:Ma} {p:Option Cc} {c:Cc}:mi m p c=0↔(Ay m.st c.f c.i∧0≤c.k∧c.k<m.m.fs.length)∧(1≤(bn m c.k.toNat).r∧(bn m c.k.toNat).f=c.f∧(bn m c.k.toNat).i=c.i)∧∀q,p=some q→xz q c:=by
 have hfr:jI m c.k=bn m c.k.toNat:=rfl
 unfold mi
 rw[iW (by decide),iW (by decide),hfr]
 refine and_congr ⟨fun h=>⟨⟨by omega,by omega⟩,by omega⟩,fun h=>by obtain⟨⟨_,_⟩,_⟩:=h;omega⟩ (and_congr ⟨fun h=>by omega,fun h=>by omega⟩ ?_)
 cases p with
 | none=>simp
 | some q=>
  simp only[Option.some.injEq,forall_eq']
  rw[iW (by decide)]
  unfold xz
  omega
theorem zH {l:List Cc} (h:∀k (hk:k+1<l.length),xz (l[k]'(by omega)) l[k+1]):l.Pairwise xz:=by
 induction l with
 | nil=>exact List.Pairwise.nil
 | cons a l ih=>
  have ih:=ih fun k hk=>h (k+1) (by simpa using hk)
  refine List.pairwise_cons.2 ⟨?_,ih⟩
  cases l with
  | nil=>simp
  | cons b l=>
   have h0:xz a b:=h 0 (by simp)
   intro c hc
   rcases List.mem_cons.1 hc with e|hc
   ·rw[e];exact h0
   ·have h1:=(List.pairwise_cons.1 ih).1 c hc
    unfold xz at *; omega
theorem sM {m:Ma}:cachedE m=0↔sD m:=by
 unfold cachedE
 rw[firstE_zero]
 constructor
 ·intro h
  have h1:∀k (hk:k<m.ca.length),mi m (qh m.ca k) m.ca[k]=0:=fun k hk=>by
   have:=h _ (List.mem_map_of_mem (List.mem_range.2 hk))
   rw[List.getD_eq_getElem?_getD,List.getElem?_eq_getElem hk] at this
   exact this
  have h2:∀c∈m.ca,(Ay m.st c.f c.i∧0≤c.k∧c.k<m.m.fs.length)∧(1≤(bn m c.k.toNat).r∧(bn m c.k.toNat).f=c.f∧(bn m c.k.toNat).i=c.i):=fun c hc=>by
   obtain⟨k,hk,rfl⟩:=List.mem_iff_getElem.1 hc
   have:=oq.1 (h1 k hk)
   exact⟨this.1,this.2.1⟩
  refine⟨fun c hc=>(h2 c hc).1.1,fun c hc=>(h2 c hc).1.2,fun c hc=>(h2 c hc).2,zH fun k hk => ?_⟩
  refine (oq.1 (h1 (k+1) hk)).2.2 _ ?_
  unfold qh
  rw[if_neg (by omega),Nat.add_sub_cancel,List.getElem?_eq_getElem]
 ·intro h x hx
  obtain⟨k,hk,rfl⟩:=List.mem_map.1 hx
  have hk:=List.mem_range.1 hk
  rw[List.getD_eq_getElem?_getD,List.getElem?_eq_getElem hk,Option.getD_some]
  have hm:m.ca[k]∈m.ca:=List.getElem_mem hk
  refine oq.2 ⟨⟨h.file _ hm,h.lt _ hm⟩,h.fr _ hm,fun q hq => ?_⟩
  unfold qh at hq
  split at hq
  ·cases hq
  ·rw[List.getElem?_eq_getElem (by omega)] at hq
   rw[←Option.some.inj hq]
   exact List.pairwise_iff_getElem.1 h.srt _ _ (by omega) hk (by omega)
theorem vZ {m:Ma} (hp:Pt m) {p:Nat} {n:Int} (hk:(ent m p n).k≠0):aZ m (bI m p) n=0↔∃g,iK m p n=some g∧Jz m g (ent m p n):=by
 have hE:=(bv _).1 (kN hp p n)
 unfold aZ
 rw[iW (by decide)]
 have hon:=vv (bI m p).ar n
 constructor
 ·rintro⟨h1,h2⟩
  obtain⟨h3,h4⟩:=yU (l:=(bI m p).ar) (n:=n) (by omega)
  refine⟨_,h3,?_⟩
  generalize (bI m p).ar.getD (eY (bI m p).ar n).toNat zAr=a at *
  have he:bT (bI m p).tb n=ent m p n:=rfl
  rw[he] at h2
  generalize ent m p n=e at *
  simp only at h2
  by_cases h5:e.k=2
  ·rw[if_pos h5,iW (by decide)] at h2
   refine⟨fun _=>⟨by omega,?_⟩,fun h=>by omega,fun h=>by omega⟩
   show a.sh=false
   cases hs:a.sh with
   | false=>rfl
   | true=>exact absurd (.inr hs) h2.1
  ·rw[if_neg h5,iW (by decide),iW (by decide),iW (by decide)] at h2
   have hfr:jI m e.n=bn m e.n.toNat:=rfl
   rw[hfr] at h2
   obtain⟨h6,h7,h8,_⟩:=h2
   refine⟨fun h=>absurd h h5,fun _=>by omega,fun _ => ?_⟩
   show KE (bn m e.n.toNat) (fZ a n) e.w
   generalize bn m e.n.toNat=f at *
   have hof:0≤f.f→(0≤a.fi∧f.f=a.fi∧f.i=a.ba+n-a.fr):=fun h0=>by
    refine Classical.byContradiction fun hn=>h7 (.inl ⟨h0,?_⟩)
    rw[Bool.eq_false_iff]
    simp only[ne_eq,Bool.and_eq_true,decide_eq_true_eq]
    exact fun h=>hn ⟨h.1.1,h.1.2,h.2⟩
   refine⟨fun h0 => ?_,fun hs => ?_,fun hw => ?_,fun hw h0 => ?_,fun hw h0 => ?_⟩
   ·obtain⟨k1,k2,k3⟩:=hof h0
    refine⟨k2,?_⟩
    unfold fZ
    simp only
    rw[if_pos k1];exact k3
   ·refine Classical.byContradiction fun hn=>h7 (.inr (.inl ⟨hs,?_⟩))
    rw[Bool.eq_false_iff]
    simp only[ne_eq,Bool.and_eq_true,decide_eq_true_eq]
    exact fun h=>by omega
   ·show a.wr=true
    cases hs:a.wr with
    | true=>rfl
    | false=>exact absurd (.inr (.inr (.inr ⟨hw,hs⟩))) h7
   ·show a.sh=true
    cases hs:a.sh with
    | true=>rfl
    | false=>
     refine absurd (.inr (.inr (.inl ⟨hs,?_,hw⟩))) h7
     have:=hof h0
     simp only[Bool.and_eq_true,decide_eq_true_eq]
     exact⟨⟨this.1,this.2.1⟩,this.2.2⟩
   ·exact Classical.byContradiction fun hn=>h8 ⟨h0,hw,by omega⟩
 ·rintro⟨g,hg,hf⟩
  have hne:onA (bI m p).ar n≠none:=by
   have:iK m p n=onA (bI m p).ar n:=rfl
   rw[←this,hg];exact fun h=>by cases h
  have h1:=hon.2 hne
  refine⟨by omega,?_⟩
  obtain⟨h3,h4⟩:=yU (l:=(bI m p).ar) (n:=n) h1
  have hg' : g=fZ ((bI m p).ar.getD (eY (bI m p).ar n).toNat zAr) n:=by
   have:iK m p n=onA (bI m p).ar n:=rfl
   rw[this,h3] at hg
   exact (Option.some.inj hg).symm
  subst hg'
  generalize (bI m p).ar.getD (eY (bI m p).ar n).toNat zAr=a at *
  have he:bT (bI m p).tb n=ent m p n:=rfl
  rw[he]
  generalize ent m p n=e at *
  simp only
  by_cases h5:e.k=2
  ·obtain⟨k1,k2⟩:=hf.sw h5
   have k2:a.sh=false:=k2
   rw[if_pos h5,iW (by decide)]
   refine⟨?_,rfl⟩
   rintro (h|h)
   ·omega
   ·rw[k2] at h;cases h
  ·have h1:e.k=1:=by omega
   have k1:=hf.lt h1
   obtain⟨f1,f2,f3,f4,f5⟩:=hf.fr h1
   have hfr:jI m e.n=bn m e.n.toNat:=rfl
   rw[if_neg h5,iW (by decide),iW (by decide),iW (by decide),hfr]
   generalize bn m e.n.toNat=f at *
   have f2:a.sh=true→0≤f.f:=f2
   have f3:e.w=true→a.wr=true:=f3
   have f4:e.w=true→0≤f.f→a.sh=true:=f4
   have hof:0≤f.f→(decide (0≤a.fi)&&decide (f.f=a.fi)&&decide (f.i=a.ba+n-a.fr))=true:=fun h0=>by
    obtain⟨k2,k3⟩:=f1 h0
    have k2:f.f=a.fi:=k2
    unfold fZ at k3
    simp only at k3
    rw[if_pos (by omega)] at k3
    simp only[Bool.and_eq_true,decide_eq_true_eq]
    exact⟨⟨by omega,k2⟩,k3⟩
   have hof' : (decide (0≤a.fi)&&decide (f.f=a.fi)&&decide (f.i=a.ba+n-a.fr))=true→0≤f.f:=fun h=>by
    simp only[Bool.and_eq_true,decide_eq_true_eq] at h
    omega
   generalize (decide (0≤a.fi)&&decide (f.f=a.fi)&&decide (f.i=a.ba+n-a.fr))=of at *
   refine⟨by omega,?_,?_,rfl⟩
   ·rintro (⟨k2,k3⟩|⟨k2,k3⟩|⟨k2,k3,k4⟩|⟨k2,k3⟩)
    ·rw[hof k2] at k3;cases k3
    ·rw[hof (f2 k2)] at k3;cases k3
    ·rw[f4 k4 (hof' k3)] at k2;cases k2
    ·rw[f3 k2] at k3;cases k3
   ·rintro⟨k2,k3,k4⟩
    have:=f5 k3 k2
    omega
theorem rO {m:Ma} (hp:Pt m):iN m=0↔∀p n,(ent m p n).k≠0→∃g,iK m p n=some g∧Jz m g (ent m p n):=by
 unfold iN
 rw[firstE_zero]
 constructor
 ·intro h p n hk
  have hp' : p<m.sp.length:=Classical.byContradiction fun hn=>hk (by unfold ent;rw[iT (by omega)];have:bT zSp.tb n=zEn:=jr n;rw[this];rfl)
  have hn:0≤n∧n<64:=Classical.byContradiction fun hn=>hk (by rw[rW p (by omega)];rfl)
  refine (vZ hp hk).1 (h _ (List.mem_flatMap.2 ⟨bI m p,rZ hp',List.mem_map_of_mem (gH.2 ⟨hn,hk⟩)⟩))
 ·intro h x hx
  obtain⟨s,hs,hx⟩:=List.mem_flatMap.1 hx
  obtain⟨n,hn,rfl⟩:=List.mem_map.1 hx
  obtain⟨p,hp',rfl⟩:=Dt hs
  have hk:=(gH.1 hn).2
  exact (vZ hp hk).2 (h p n hk)
theorem IV (t:Tb) (i:Int):cnt (jD t (aF t)) i=(bA t).countP (jZ 1 i):=by
 rw[←Bg (show (1:Int)≠0 by decide)]
 unfold cnt jD Ec zK
 rw[List.countP_map,List.countP_filter,←List.countP_eq_length_filter]
 congr 1
 funext n
 simp only[Function.comp_apply,Bool.not_or]
 rw[Bool.eq_iff_iff]
 simp only[Bool.and_eq_true,Bool.not_eq_true',decide_eq_false_iff_not,Classical.not_not,decide_eq_true_eq]
 exact and_comm
theorem Iq {t:Tb} (h:bB t=0) (i:Int):cnt (swapT t (aF t)) i=(bA t).countP (jZ 2 i):=by
 rw[←Bg (show (2:Int)≠0 by decide)]
 unfold cnt swapT Ec zK
 rw[List.countP_map,List.countP_filter,←List.countP_eq_length_filter]
 refine List.countP_congr fun n hn => ?_
 have hE:=(bv _).1 (kD h n)
 have hk:=(gH.1 hn).2
 simp only[Function.comp_apply,Bool.not_or,Bool.and_eq_true,Bool.not_eq_true',decide_eq_false_iff_not,Classical.not_not,decide_eq_true_eq]
 constructor
 ·rintro⟨h1,h2⟩;exact⟨by omega,h1⟩
 ·rintro⟨h1,h2⟩;exact⟨h2,by omega⟩
theorem rM (l r:List Int) (i:Int):cnt (l++r) i=cnt l i+cnt r i:=by unfold cnt;rw[List.countP_append]
theorem wV {α:Type} (g:α→List Int) (i:Int):∀l:List α,cnt (l.flatMap g) i=(l.map fun s=>cnt (g s) i).sum
 | []=>rfl
 | a::l=>by rw[List.flatMap_cons,rM,wV g i l,List.map_cons,List.sum_cons]
theorem Av (m:Ma) (i:Int):cnt (lu m) i=qM m i+bP m 1 i:=by
 unfold lu
 rw[rM,wV]
 congr 1
 ·unfold cnt qM
  rw[List.countP_map];rfl
 ·unfold bP
  congr 1
  exact List.map_congr_left fun s _=>IV s.tb i
theorem yu {m:Ma} (hp:Pt m) (i:Int):cnt (kI m) i=bP m 2 i:=by
 unfold kI bP
 rw[wV]
 congr 1
 exact List.map_congr_left fun s hs=>Iq (hp.tb s hs) i
theorem vG {m:Ma} (hp:Pt m):countB m=true↔(∀i:Nat,i<m.m.fs.length→(bn m i).r=qM m i+bP m 1 i)∧(∀i:Nat,i<m.m.fs.length→0≤(bn m i).f→∃c∈m.ca,c.k=i)∧∀s:Nat,s<m.sl.length→fB m s=bP m 2 s:=by
 unfold countB
 rw[Bool.and_eq_true,List.all_eq_true,decide_eq_true_eq]
 constructor
 ·rintro⟨h1,h2⟩
  have h1:∀i:Nat,i<m.m.fs.length→_:=fun i hi=>h1 i (List.mem_range.2 hi)
  simp only[Bool.and_eq_true,decide_eq_true_eq,Bool.or_eq_true,List.any_eq_true,Av,xy] at h1
  refine⟨fun i hi=>by rw[(h1 i hi).1];omega,fun i hi h0 => ?_,fun s hs => ?_⟩
  ·rcases (h1 i hi).2 with h|⟨c,hc,hk⟩
   ·have h:(bn m i).f<0:=of_decide_eq_true h
    omega
   ·exact⟨c,hc,hk⟩
  ·have:fB m s=(gF m.sl.length (kI m)).getD s 0:=by rw[←h2];rfl
   rw[this]
   unfold gF
   rw[List.getD_eq_getElem?_getD,List.getElem?_map,List.getElem?_range hs]
   show ((cnt (kI m) s:Nat):Int)=_
   rw[yu hp]
 ·rintro⟨h1,h2,h3⟩
  refine⟨fun i hi => ?_,?_⟩
  ·have hi:=List.mem_range.1 hi
   simp only[Bool.and_eq_true,decide_eq_true_eq,Bool.or_eq_true,List.any_eq_true,Av,xy]
   refine⟨by rw[h1 i hi];omega,?_⟩
   by_cases h0:0≤(bn m i).f
   ·obtain⟨c,hc,hk⟩:=h2 i hi h0
    exact .inr ⟨c,hc,hk⟩
   ·exact .inl (decide_eq_true (show (bn m i).f<0 by omega))
  ·apply List.ext_getElem
   ·unfold gF;simp
   ·intro s k1 k2
    have:=h3 s k1
    have e2:(gF m.sl.length (kI m))[s]'k2=((cnt (kI m) (s:Int):Nat):Int):=by simp[gF]
    rw[e2,yu hp,←this]
    unfold fB
    rw[List.getD_eq_getElem?_getD,List.getElem?_eq_getElem k1];rfl
theorem GA {m:Ma}:fP m=0↔Rt m:=by
 unfold fP
 rw[iP,iP,iP,nU,sM]
 constructor
 ·rintro⟨⟨hp,ht,hl⟩,hc,he,hb⟩
  have hb:countB m=true:=by
   cases h:countB m with
   | true=>rfl
   | false=>rw[h] at hb;exact absurd hb (by decide)
  obtain⟨b1,b2,b3⟩:=(vG hp).1 hb
  refine⟨hp,yL.1 ht,fun p hp' => ?_,hc,(rO hp).1 he,b1,b2,b3⟩
  rcases Nat.lt_or_ge p m.sp.length with h|h
  ·exact hl _ (rZ h) hp'
  ·rw[iT h]
   refine⟨rfl,fun n => ?_⟩
   unfold ent
   rw[iT h]
   have:bT zSp.tb n=zEn:=jr n
   rw[this];rfl
 ·intro h
  refine⟨⟨h.pt,yL.2 h.trim,fun s hs hlv => ?_⟩,h.ca,(rO h.pt).2 h.en,?_⟩
  ·obtain⟨p,hp,rfl⟩:=Dt hs
   exact h.live p hlv
  ·rw[if_pos ((vG h.pt).2 ⟨h.cf,h.fc,h.cs⟩)]
def zm (m:Ma):List Int:=[cz m.m,cK m.sl,bD m.sw,bD m.dk,aP m.st]
theorem Ex {m:Ma} {k:Nat} (hk:k<5) (h:∀j,j<k→(zm m).getD j 0=0) (hne:(zm m).getD k 0≠0):dZ m=(zm m).getD k 0:=by
 unfold dZ
 have e0:0<k→cz m.m=0:=fun h'=>h 0 h'
 have e1:1<k→cK m.sl=0:=fun h'=>h 1 h'
 have e2:2<k→bD m.sw=0:=fun h'=>h 2 h'
 have e3:3<k→bD m.dk=0:=fun h'=>h 3 h'
 match k,hk with
 | 0,_=>rw[if_pos (show cz m.m≠0 from hne)];rfl
 | 1,_=>rw[if_neg (by rw[e0 (by omega)];simp),if_pos (show cK m.sl≠0 from hne)];rfl
 | 2,_=>rw[if_neg (by rw[e0 (by omega)];simp),if_neg (by rw[e1 (by omega)];simp),if_pos (show bD m.sw≠0 from hne)];rfl
 | 3,_=>rw[if_neg (by rw[e0 (by omega)];simp),if_neg (by rw[e1 (by omega)];simp),if_neg (by rw[e2 (by omega)];simp),if_pos (show bD m.dk≠0 from hne)];rfl
 | 4,_=>rw[if_neg (by rw[e0 (by omega)];simp),if_neg (by rw[e1 (by omega)];simp),if_neg (by rw[e2 (by omega)];simp),if_neg (by rw[e3 (by omega)];simp),if_pos (show aP m.st≠0 from hne)];rfl
 | n+5,h'=>omega
def Ml (B:Nat) (H:MH):iF:=⟨fun v w => ∃g,v = .slice (some ⟨g,0,none⟩) 5 5∧aB w g #[.int .i64 (cz H.m),.int .i64 (cK H.sl),.int .i64 (bD H.sw),.int .i64 (bD H.dk),.int .i64 (aP (dW H.fi H.ct))] 43,fun _ _ _ hb ⟨g,h1,h2⟩=>⟨g,h1,h2.ext hb⟩⟩
theorem Fv (H:MH) (b:Nat) (w:World) (hbk:aB w b (bM H) 40) (h:qV w H) :
  Calls Try.prog 35 #[.pointer (some ⟨b,0,none⟩)] w fun r w'=>r = .returned (.int .i64 (dZ H.ma))∧Below w.heap.size w w':=by
 go_enter Try.func35,Try.ntmps35
 go_upto_region 1 with (fail)
 refine aC 28 [_,_,_,_,.v (.int .i64 (cz H.m)),_,_,_,_,.v (.int .i64 (cK H.sl)),_,_,_,_,.v (.int .i64 (bD H.sw)),_,_,_,_,.v (.int .i64 (bD H.dk)),_,_,_,_,.v (.int .i64 (aP (dW H.fi H.ct))),.r 25 ((Ml w.heap.size H)),.v (.int .i64 5),_] (Gk rfl (Gk rfl (Gf b 0 rfl rfl (Gr (.agg #[.slice H.af H.m.fs.length H.cf,.int .i64 H.m.hand]) (fun ρ y W hb hKn=>(bN rfl (az rfl hKn) (bG (hbk.ext hb) 0 2) Try.underlying27 rfl (by kernel_rfl))) rfl rfl (all_cons ?_ (Gk rfl (Gk rfl (Gf b 2 rfl rfl (Gl hbk rfl rfl rfl rfl rfl (all_cons ?_ (Gk rfl (Gk rfl (Gf b 3 rfl rfl (Gr (.agg #[.slice H.wb H.sw.blocks.length H.cwb,.slice H.wq H.sw.queue.length H.cwq]) (fun ρ y W hb hKn=>(bN rfl (az rfl hKn) (bG (hbk.ext hb) 3 2) Try.underlying33 rfl (by kernel_rfl))) rfl rfl (all_cons ?_ (Gk rfl (Gk rfl (Gf b 5 rfl rfl (Gr (.agg #[.slice H.db H.dk.blocks.length H.cdb,.slice H.dq H.dk.queue.length H.cdq]) (fun ρ y W hb hKn=>(bN rfl (az rfl hKn) (bG (hbk.ext hb) 5 2) Try.underlying33 rfl (by kernel_rfl))) rfl rfl (all_cons ?_ (Gk rfl (Gk rfl (Gf b 7 rfl rfl (Gr (.agg #[.slice H.ai H.fi.length H.ci,.int .i64 H.ct]) (fun ρ y W hb hKn=>(bN rfl (az rfl hKn) (bG (hbk.ext hb) 7 2) Try.underlying36 rfl (by kernel_rfl))) rfl rfl (all_cons ?_ (all_cons ?_ (all_cons ?_ (Gr (.int .i64 0) (fun ρ y W hb hKn=>(run_move (.inl rfl) (az rfl hKn))) rfl rfl (all_nil))))))))))))))))))))))))))))) (fun _=>rfl) rfl ?_
 ·intro ρ y W hw hn hb hd;have E12:=hw 12 3 rfl;have h3:y 3=_:=hd 3 rfl
  have EF:∀f,ρ (.func f) = .func (.func f) #[] #[]:=fun f=>hn (.func f) trivial
  refine aG _ _ (ag rfl) (aK rfl (EF _) Try.func77 (by kernel_rfl) (by kernel_rfl) (by simp only[List.map_toArray,List.map_cons,List.map_nil,E12,h3,EF];rfl)) ?_
  refine (wh H.m _ _ W (h.below hb).fr).mono ?_
  rintro r w1 ⟨rfl,hb1⟩
  exact⟨_,rfl,hb1,rfl⟩
 ·intro ρ y W hw hn hb hd;have E17:=hw 17 8 rfl;have h8:y 8=_:=hd 8 rfl
  have EF:∀f,ρ (.func f) = .func (.func f) #[] #[]:=fun f=>hn (.func f) trivial
  refine aG _ _ (ag rfl) (aK rfl (EF _) Try.func78 (by kernel_rfl) (by kernel_rfl) (by simp only[List.map_toArray,List.map_cons,List.map_nil,E17,h8,EF];rfl)) ?_
  refine (uB H.sl _ _ W (h.below hb).sl.rd (by have:=h.sl.le;have:=h.sl.mx;unfold maxLen at this;omega)).mono ?_
  rintro r w1 ⟨rfl,rfl⟩
  exact⟨_,rfl,Below.refl _ _,rfl⟩
 ·intro ρ y W hw hn hb hd;have E22:=hw 22 13 rfl;have h13:y 13=_:=hd 13 rfl
  have EF:∀f,ρ (.func f) = .func (.func f) #[] #[]:=fun f=>hn (.func f) trivial
  refine aG _ _ (ag rfl) (aK rfl (EF _) Try.func79 (by kernel_rfl) (by kernel_rfl) (by simp only[List.map_toArray,List.map_cons,List.map_nil,E22,h13,EF];rfl)) ?_
  refine (vT H.sw _ _ _ _ W (h.below hb).sw).mono ?_
  rintro r w1 ⟨rfl,hb1⟩
  exact⟨_,rfl,hb1,rfl⟩
 ·intro ρ y W hw hn hb hd;have E27:=hw 27 18 rfl;have h18:y 18=_:=hd 18 rfl
  have EF:∀f,ρ (.func f) = .func (.func f) #[] #[]:=fun f=>hn (.func f) trivial
  refine aG _ _ (ag rfl) (aK rfl (EF _) Try.func79 (by kernel_rfl) (by kernel_rfl) (by simp only[List.map_toArray,List.map_cons,List.map_nil,E27,h18,EF];rfl)) ?_
  refine (vT H.dk _ _ _ _ W (h.below hb).dk).mono ?_
  rintro r w1 ⟨rfl,hb1⟩
  exact⟨_,rfl,hb1,rfl⟩
 ·intro ρ y W hw hn hb hd;have E32:=hw 32 23 rfl;have h23:y 23=_:=hd 23 rfl
  have EF:∀f,ρ (.func f) = .func (.func f) #[] #[]:=fun f=>hn (.func f) trivial
  refine aG _ _ (ag rfl) (aK rfl (EF _) Try.func80 (by kernel_rfl) (by kernel_rfl) (by simp only[List.map_toArray,List.map_cons,List.map_nil,E32,h23,EF];rfl)) ?_
  refine (Cu H.fi H.ct _ _ W (h.below hb).st h.c64).mono ?_
  rintro r w1 ⟨rfl,hb1⟩
  exact⟨_,rfl,hb1,rfl⟩
 ·intro ρ y W hw hn hb hd;have E13:=hw 13 4 rfl;have h4:y 4=_:=hd 4 rfl;have E18:=hw 18 9 rfl;have h9:y 9=_:=hd 9 rfl;have E23:=hw 23 14 rfl;have h14:y 14=_:=hd 14 rfl;have E28:=hw 28 19 rfl
  have h19:y 19=_:=hd 19 rfl
  have E33:=hw 33 24 rfl
  have h24:y 24=_:=hd 24 rfl
  refine jb (.slice (some ⟨W.heap.size,0,none⟩) 5 5) (ag rfl) (by simp[execOp,go_sem,E13.trans h4,E18.trans h9,E23.trans h14,E28.trans h19,E33.trans h24]) ((Below.refl _ _).alloc (Nat.le_refl _) (.cells #[.int .i64 (cz H.m),.int .i64 (cK H.sl),.int .i64 (bD H.sw),.int .i64 (bD H.dk),.int .i64 (aP (dW H.fi H.ct))] 43)) ?_
  exact⟨_,rfl,aB.new _ _ _⟩
 ·intro ρ y W hw hn hb hd;have E34:=hw 34 25 rfl;have h25:=hd 25 rfl
  obtain⟨ge,hge,_⟩:=h25
  refine ah (.int .i64 5) (ag rfl) (by simp[execOp,go_sem,E34,hge]) rfl
 intro y W1 hbW1 hRW1
 have hy25:((Ml w.heap.size H)).r (y 25) W1:=hRW1 25 (by decide)
 clear hRW1
 obtain⟨ge,hge,hxe⟩:=hy25
 have hbelW:Below w.heap.size w W1:=hbW1
 rw[hge]
 clear hge hbW1
 go_upto_region 2 with (fail)
 go_loopw [36] (fun i wr => ∃(k:Nat),k≤5∧i = .int .i64 k∧Below w.heap.size w wr∧aB wr ge #[.int .i64 (cz H.m),.int .i64 (cK H.sl),.int .i64 (bD H.sw),.int .i64 (bD H.dk),.int .i64 (aP (dW H.fi H.ct))] 43∧Hid (∀j,j<k→(zm H.ma).getD j 0=0)) (fun i _=>5-(intOf i).toNat)
 case atStart=>exact⟨0,Nat.zero_le _,rfl,hbelW,hxe,Lib.hid fun j hj=>absurd hj (Nat.not_lt_zero _)⟩
 case round=>
  clear hbelW hxe
  obtain⟨k,hk,rfl,hbr,hx,hz⟩:=hrel
  by_cases hkl:k<5
  ·have hki:(k:Int)<5:=by omega
   have hck:wr.cell? ⟨ge,k,none⟩=some (.int .i64 ((zm H.ma).getD k 0)):=by
    rw[hx.cell]
    match k,hkl with
    | 0,_=>rfl
    | 1,_=>rfl
    | 2,_=>rfl
    | 3,_=>rfl
    | 4,_=>rfl
    | n+5,h'=>omega
   by_cases h0:(zm H.ma).getD k 0=0
   ·have hz2:Hid (∀j,j<k+1→(zm H.ma).getD j 0=0):=Lib.hid fun j hj=>by
     by_cases e:j=k
     ·rw[e];exact h0
     ·exact hz.out j (by omega)
    rw[h0] at hck
    clear h0 hz
    go_wp2
    go_roundw
    case rel=>exact⟨k+1,by omega,by go_num,hbr,hx,hz2⟩
    case measure=>simp[intOf];omega
   ·have hq:Hid (dZ H.ma=(zm H.ma).getD k 0):=Lib.hid (Ex hkl hz.out h0)
    generalize (zm H.ma).getD k 0=E at *
    clear hz
    go_wp2
    go_ret
    rw[hq.out]
    exact⟨rfl,hbr⟩
  ·have hki:¬(k:Int)<5:=by omega
   have hz0:=hz.out 0 (by omega)
   have hz1:=hz.out 1 (by omega)
   have hz2:=hz.out 2 (by omega)
   have hz3:=hz.out 3 (by omega)
   have hz4:=hz.out 4 (by omega)
   have e0:=Lib.hid (show cz H.m=0 from hz0)
   have e1:=Lib.hid (show cK H.sl=0 from hz1)
   have e2:=Lib.hid (show bD H.sw=0 from hz2)
   have e3:=Lib.hid (show bD H.dk=0 from hz3)
   have e4:=Lib.hid (show aP (dW H.fi H.ct)=0 from hz4)
   clear hz0 hz1 hz2 hz3 hz4 hz hx
   have hbkr:=hbk.ext hbr
   have hr:=h.below hbr
   have hP:Hid (dZ H.ma=if H.sw.blocks.length≠H.sl.length∨(H.dk.blocks.length:Int)≠H.ct∨trimB H.ma=false then 7 else if 4<H.sp.length then 4 else firstE (H.ma.sp.map fM)):=Lib.hid (by
    unfold dZ
    rw[if_neg (by rw[show cz H.ma.m=0 from e0.out];simp),if_neg (by rw[show cK H.ma.sl=0 from e1.out];simp),if_neg (by rw[show bD H.ma.sw=0 from e2.out];simp),if_neg (by rw[show bD H.ma.dk=0 from e3.out];simp),if_neg (by rw[show aP H.ma.st=0 from e4.out];simp),nK]
    rfl)
   go_upto_region 7 with (fail)
   have hcb:=hbkr.cell
   unfold bM at hcb
   by_cases c1:H.sw.blocks.length=H.sl.length
   ·by_cases c2:(H.dk.blocks.length:Int)=H.ct
    ·have c1i:(H.sw.blocks.length:Int)=(H.sl.length:Int):=by omega
     have hp2:Hid (dZ H.ma=if trimB H.ma=false then 7 else if 4<H.sp.length then 4 else firstE (H.ma.sp.map fM)):=Lib.hid (by
      rw[hP.out]
      by_cases ct:trimB H.ma=false
      ·rw[if_pos (.inr (.inr ct)),if_pos ct]
      ·rw[if_neg (by rintro (h | h | h);exact h c1;exact h c2;exact ct h),if_neg ct])
     refine aC 31 [_,_,_,_,_,_,_,_,_,_,_,_,_,_,_,_,_,_,_,_,_,_,_,_,_,_,_,_,.v (.bool (trimB H.ma)),_,.v (.bool (!trimB H.ma))] (Gk rfl (Gk rfl (Gf b 3 rfl rfl (Gf b 3 rfl rfl (Gl hbkr rfl rfl rfl rfl rfl (Gn rfl rfl rfl rfl (Gk rfl (Gk rfl (Gf b 2 rfl rfl (Gl hbkr rfl rfl rfl rfl rfl (Gn rfl rfl rfl rfl (Gb (.bool false) (by simp[go_sem,c1]) rfl rfl rfl rfl rfl (Gk rfl (Gk rfl (Gk rfl (Gf b 5 rfl rfl (Gf b 5 rfl rfl (Gl hbkr rfl rfl rfl rfl rfl (Gn rfl rfl rfl rfl (Gk rfl (Gk rfl (Gf b 7 rfl rfl (Gf b 8 rfl rfl (Gl hbkr rfl rfl rfl rfl rfl (Gb (.bool false) (by simp[go_sem,c2]) rfl rfl rfl rfl rfl (Gk rfl (Gk rfl (Gk rfl (all_cons ?_ (Gr (.bool (!trimB H.ma)) (fun ρ y W hb hKn=>vg rfl (az rfl hKn)) rfl rfl (Gk rfl (all_nil)))))))))))))))))))))))))))))))) (fun _=>rfl) rfl ?_
     ·intro ρ y W hw hn hb hd;have E71:=hw 71 27 rfl;have h27:y 27=_:=hd 27 rfl
      have EF:∀f,ρ (.func f) = .func (.func f) #[] #[]:=fun f=>hn (.func f) trivial
      refine aG _ _ (aJ 26 70 false false rfl rfl ((hw 70 26 rfl).trans (hd 26 rfl))) (aK rfl (EF _) Try.func81 (by kernel_rfl) (by kernel_rfl) (by simp only[List.map_toArray,List.map_cons,List.map_nil,E71,h27,EF];rfl)) ?_
      refine (Ai H b W (hbkr.ext hb) (hr.below hb) e4.out e3.out).mono ?_
      rintro r w1 ⟨rfl,hb1⟩
      exact⟨_,rfl,hb1,rfl⟩
     intro y W2 hbW2 _
     have hbr2:=ae hbr hbW2
     clear hbW2
     cases ht:trimB H.ma with
     | false=>
      have hp7:Hid (dZ H.ma=7):=Lib.hid (by rw[hp2.out,if_pos ht])
      clear c1 c2 c1i
      go_wp2
      go_ret
      rw[hp7.out]
      exact⟨rfl,hbr2⟩
     | true=>
      have hp3:Hid (dZ H.ma=if 4<H.sp.length then 4 else firstE (H.ma.sp.map fM)):=Lib.hid (by rw[hp2.out,if_neg (by rw[ht];decide)])
      clear c1 c2 c1i hcb ht
      have hr2:=h.below hbr2
      have hcb:=(hbk.ext hbr2).cell
      unfold bM at hcb
      clear hr hbkr hP hp2 hbr
      by_cases c4:4<H.sp.length
      ·have hp4:Hid (dZ H.ma=4):=Lib.hid (by rw[hp3.out,if_pos c4])
       have c4i:(4:Int)<(H.sp.length:Int):=by omega
       clear c4
       go_wp2
       go_ret
       rw[hp4.out]
       exact⟨rfl,hbr2⟩
      ·have hp4:Hid (dZ H.ma=firstE (H.ma.sp.map fM)):=Lib.hid (by rw[hp3.out,if_neg c4])
       have c4i:¬(4:Int)<(H.sp.length:Int):=by omega
       have hlen:Hid ((H.ma.sp.map fM).length=H.sp.length):=Lib.hid (by rw[List.length_map,nK])
       clear c4 hp3
       go_upto_region 12 with (fail)
       clear hcb hr2
       go_loopw [86] (fun i wr => ∃(k:Nat),k≤H.sp.length∧i = .int .i64 k∧Below w.heap.size w wr∧Hid (∀j (hj:j<(H.ma.sp.map fM).length),j<k→(H.ma.sp.map fM)[j]=0)) (fun i _=>H.sp.length-(intOf i).toNat)
       case atStart=>exact⟨0,Nat.zero_le _,rfl,hbr2,Lib.hid fun j _ hj=>absurd hj (Nat.not_lt_zero _)⟩
       case round=>
        clear hbr2
        obtain⟨k,hk,rfl,hbr,hz⟩:=hrel
        by_cases hkl:k<H.sp.length
        ·obtain⟨bs,os,P,hap,hP,hrd⟩:=lC (h.below hbr).sp.rd k hkl
         have hgood:=nz (h.below hbr) hP
         have hki:(k:Int)<(H.sp.length:Int):=by omega
         have hkm:k<(H.ma.sp.map fM).length:=by rw[hlen.out];exact hkl
         have hE:Hid ((H.ma.sp.map fM)[k]=fM P.sp):=Lib.hid (by
          rw[List.getElem_map]
          congr 1
          have:H.ma.sp[k]?=some P.sp:=by show (H.sp.map PS.sp)[k]?=_;rw[List.getElem?_map,hP];rfl
          exact (List.getElem?_eq_some_iff.1 this).2)
         have hfin:Hid (fM P.sp≠0→dZ H.ma=fM P.sp):=Lib.hid fun hne=>by
          rw[hp4.out,pu k hkm hz.out (by rw[hE.out];exact hne),hE.out]
         have hnx:Hid (fM P.sp=0→∀j (hj:j<(H.ma.sp.map fM).length),j<k+1→(H.ma.sp.map fM)[j]=0):=Lib.hid fun h0 j hj hjk=>by
          by_cases e:j=k
          ·subst e;rw[hE.out];exact h0
          ·exact hz.out j hj (by omega)
         have hsp:Hid (fM P.sp=if (aT P.ar).1≠0 then (aT P.ar).1 else if bB P.tb≠0 then bB P.tb else if P.lv=false∧0<P.ar.length+(aF P.tb).length then 7 else 0):=Lib.hid rfl
         rw[hap]
         clear hz hP hE hkm
         have hps1:(ny P).all (·.oneCell')=true:=by
          rw[←Array.all_toList,List.all_eq_true];exact hgood.one
         go_wp2_with (first | (refine ak _ _ rfl bs (os+k*10) rfl rfl _ hrd _ Try.underlying65 rfl space_size ?_) | (refine aD rfl _ _ _ rfl (ny P) rfl rfl rfl space_size hps1 ?_))
         intro w3 hb3 fx3
         have hbr3:=ae hbr hb3
         have hg3:=hgood.below hb3
         have hgl:=fx3.lt
         generalize wr.heap.size=gs at fx3 hgl ⊢
         clear hbr hb3 hrd hgood hps1
         have hcf:=fx3.cell
         unfold ny at hcf
         have hA:=hg3.ars
         go_wp2_with fail
         refine (Cb P.ar P.aa P.ac _ hA.rd (by have:=hA.le;have:=hA.mx;unfold maxLen at this;omega)).mono ?_
         rintro r w3' ⟨rfl,hb3'⟩
         have fx3':=fx3.ext hb3'
         have hbr3':=ae hbr3 hb3'
         have hg3':=hg3.below hb3'
         clear hcf fx3 hbr3 hg3 hb3' hA
         go_wp2_with (refine aD rfl _ _ _ rfl (Ap (aT P.ar)) rfl rfl rfl fau_size (by simp[Ap,Value.oneCell']) ?_)
         intro w4 hb4 ux
         have fx:=fx3'.ext hb4
         have hbr4:=ae hbr3' hb4
         have hg4:=hg3'.below hb4
         clear fx3' hbr3' hg3' hb4
         have hcu:=ux.cell
         unfold Ap at hcu
         by_cases c5:(aT P.ar).1=0
         ·rw[if_neg (by rw[c5];simp)] at hsp
          rw[c5] at hcu
          have hal:=(pz c5).1
          have hpl:(aF P.tb).length≤64:=qP P.tb 64
          have hws:IntKind.i64.wrap ((P.ar.length:Int)+((aF P.tb).length:Int))=(P.ar.length:Int)+((aF P.tb).length:Int):=IntWalk.i64_in _ (by omega)
          go_upto_region 17 with (fail)
          clear hcu ux c5
          go_wp2_with (refine ak _ _ rfl gs 2 rfl rfl _ (bG fx 2 8) _ Try.underlying63 tab_agg tab_size ?_)
          refine (wU P.tb (iG P.ts) _ hg4.tb).mono ?_
          rintro r w6 ⟨rfl,hb6⟩
          replace fx:=fx.ext hb6
          replace hbr4:=ae hbr4 hb6
          replace hg4:=hg4.below hb6
          clear hb6
          by_cases c6:bB P.tb=0
          ·rw[if_neg (by rw[c6];simp)] at hsp
           rw[c6]
           go_upto_region 20 with (fail)
           cases hlv:P.lv with
           | true=>
            have hs0:Hid (fM P.sp=0):=Lib.hid (by rw[hsp.out,if_neg (by rw[hlv];simp)])
            refine aC 14 [_,_,_,_,_,_,_,_,_,_,_,_,_,.v (.bool false)] (Gf gs 0 rfl rfl (Gl fx (V:=.bool true) (by simp[ny,hlv]) rfl rfl rfl rfl (Gk rfl (Gk rfl (Gk rfl (Gk rfl (Gk rfl (Gk rfl (Gk rfl (Gk rfl (Gk rfl (Gk rfl (Gk rfl (Gk rfl (all_nil))))))))))))))) (fun _=>rfl) rfl ?_
            intro y W5 hbW5 _
            have hbr5:=ae hbr4 hbW5
            clear hbW5
            have hall:=Lib.hid (hnx.out hs0.out)
            clear hws fx hg4
            go_wp2
            go_roundw
            case rel=>exact⟨k+1,by omega,by go_num,hbr5,hall⟩
            case measure=>simp[intOf];omega
           | false=>
            refine aC 14 [_,_,_,_,_,_,_,_,_,.r 9 ((ic w6.heap.size 3 1 (aF P.tb).length ((aF P.tb).map dE))),.v (.int .i64 (aF P.tb).length),_,_,.v (.bool (decide (0<(P.ar.length:Int)+((aF P.tb).length:Int))))] (Gf gs 0 rfl rfl (Gl fx (V:=.bool false) (by simp[ny,hlv]) rfl rfl rfl rfl (Gk rfl (Gk rfl (Gf gs 1 rfl rfl (Gl fx rfl rfl rfl rfl rfl (Gn rfl rfl rfl rfl (Gf gs 2 rfl rfl (Gr (.agg (iG P.ts)) (fun ρ y W hb hKn=>(bN rfl (az rfl hKn) (bG (fx.ext hb) 2 8) Try.underlying63 tab_agg tab_size)) rfl rfl (all_cons ?_ (all_cons ?_ (Gb (.int .i64 ((P.ar.length:Int)+((aF P.tb).length:Int))) (by simp[go_sem,hws]) rfl rfl rfl rfl rfl (Gb (.bool (decide (0<(P.ar.length:Int)+((aF P.tb).length:Int)))) (by simp[go_sem]) rfl rfl rfl rfl rfl (Gk rfl (all_nil))))))))))))))) (fun _=>rfl) rfl ?_
            ·intro ρ y W hw hn hb hd;have E112:=hw 112 8 rfl;have h8:y 8=_:=hd 8 rfl
             have EF:∀f,ρ (.func f) = .func (.func f) #[] #[]:=fun f=>hn (.func f) trivial
             refine aG _ _ (aJ 3 107 true true rfl rfl ((hw 107 3 rfl).trans (hd 3 rfl))) (aK rfl (EF _) Try.func37 (by kernel_rfl) (by kernel_rfl) (by simp only[List.map_toArray,List.map_cons,List.map_nil,E112,h8,EF];rfl)) ?_
             refine (mX P.tb (iG P.ts) W (hg4.below hb).tb).mono ?_
             rintro r w1 ⟨v,rfl,ho,hb1⟩
             exact⟨_,rfl,hb1,ho.mono hb.size⟩
            ·intro ρ y W hw hn hb hd;have E113:=hw 113 9 rfl;have h9:=hd 9 rfl
             obtain⟨a9,c9,e9,_⟩:=Own.rd h9
             refine ah (.int .i64 (aF P.tb).length) (aJ 3 107 true true rfl rfl ((hw 107 3 rfl).trans (hd 3 rfl))) (AZ rfl (E113.trans e9) rfl) rfl
            intro y W5 hbW5 hRW5
            have hy9:((ic w6.heap.size 3 1 (aF P.tb).length ((aF P.tb).map dE))).r (y 9) W5:=hRW5 9 (by decide)
            clear hRW5
            have hbr5:=ae hbr4 hbW5
            clear hbW5
            by_cases c7:0<P.ar.length+(aF P.tb).length
            ·have hq:Hid (dZ H.ma=7):=Lib.hid (by rw[hfin.out (by rw[hsp.out,if_pos ⟨hlv,c7⟩];decide),hsp.out,if_pos ⟨hlv,c7⟩])
             have hd:decide (0<(P.ar.length:Int)+((aF P.tb).length:Int))=true:=decide_eq_true (by omega)
             rw[hd]
             clear hws fx hg4 hd c7
             go_wp2
             go_ret
             rw[hq.out]
             exact⟨rfl,hbr5⟩
            ·have hs0:Hid (fM P.sp=0):=Lib.hid (by rw[hsp.out,if_neg (fun h'=>c7 h'.2)])
             have hall:=Lib.hid (hnx.out hs0.out)
             have hd:decide (0<(P.ar.length:Int)+((aF P.tb).length:Int))=false:=decide_eq_false (by omega)
             rw[hd]
             clear hws fx hg4 hd c7
             go_wp2
             go_roundw
             case rel=>exact⟨k+1,by omega,by go_num,hbr5,hall⟩
             case measure=>simp[intOf];omega
          ·rw[if_pos c6] at hsp
           have hq:Hid (dZ H.ma=bB P.tb):=Lib.hid (by rw[hfin.out (by rw[hsp.out];exact c6),hsp.out])
           generalize bB P.tb=E at *
           go_wp2
           go_ret
           rw[hq.out]
           exact⟨rfl,hbr4⟩
         ·rw[if_pos c5] at hsp
          have hq:Hid (dZ H.ma=(aT P.ar).1):=Lib.hid (by rw[hfin.out (by rw[hsp.out];exact c5),hsp.out])
          generalize (aT P.ar).1=E at *
          go_wp2
          go_ret
          rw[hq.out]
          exact⟨rfl,hbr4⟩
        ·have hki:¬(k:Int)<(H.sp.length:Int):=by omega
         have hq:Hid (dZ H.ma=0):=Lib.hid (by rw[hp4.out,mg fun i hi=>hz.out i hi (by rw[hlen.out] at hi;omega)])
         clear hz
         go_wp2
         go_ret
         rw[hq.out]
         exact⟨rfl,hbr⟩
    ·have hp7:Hid (dZ H.ma=7):=Lib.hid (by rw[hP.out,if_pos (.inr (.inl c2))])
     refine aC 31 [_,_,_,_,_,_,_,_,_,_,_,_,_,_,_,_,_,_,_,_,_,_,_,_,_,_,_,_,_,_,.v (.bool true)] (Gk rfl (Gk rfl (Gf b 3 rfl rfl (Gf b 3 rfl rfl (Gl hbkr rfl rfl rfl rfl rfl (Gn rfl rfl rfl rfl (Gk rfl (Gk rfl (Gf b 2 rfl rfl (Gl hbkr rfl rfl rfl rfl rfl (Gn rfl rfl rfl rfl (Gb (.bool false) (by simp[go_sem,c1]) rfl rfl rfl rfl rfl (Gk rfl (Gk rfl (Gk rfl (Gf b 5 rfl rfl (Gf b 5 rfl rfl (Gl hbkr rfl rfl rfl rfl rfl (Gn rfl rfl rfl rfl (Gk rfl (Gk rfl (Gf b 7 rfl rfl (Gf b 8 rfl rfl (Gl hbkr rfl rfl rfl rfl rfl (Gb (.bool true) (by simp[go_sem,c2]) rfl rfl rfl rfl rfl (Gk rfl (Gk rfl (Gk rfl (Gk rfl (Gk rfl (Gk rfl (all_nil)))))))))))))))))))))))))))))))) (fun _=>rfl) rfl ?_
     intro y W2 hbW2 _
     have hbr2:=ae hbr hbW2
     clear hbW2
     clear c1 c2
     go_wp2
     go_ret
     rw[hp7.out]
     exact⟨rfl,hbr2⟩
   ·have hp7:Hid (dZ H.ma=7):=Lib.hid (by rw[hP.out,if_pos (.inl c1)])
    have c1i:¬((H.sw.blocks.length:Int)=(H.sl.length:Int)):=by omega
    have c2:=c1
    refine aC 31 [_,_,_,_,_,_,_,_,_,_,_,_,_,_,_,_,_,_,_,_,_,_,_,_,_,_,_,_,_,_,.v (.bool true)] (Gk rfl (Gk rfl (Gf b 3 rfl rfl (Gf b 3 rfl rfl (Gl hbkr rfl rfl rfl rfl rfl (Gn rfl rfl rfl rfl (Gk rfl (Gk rfl (Gf b 2 rfl rfl (Gl hbkr rfl rfl rfl rfl rfl (Gn rfl rfl rfl rfl (Gb (.bool true) (by simp[go_sem,c1i]) rfl rfl rfl rfl rfl (Gk rfl (Gk rfl (Gk rfl (Gk rfl (Gk rfl (Gk rfl (Gk rfl (Gk rfl (Gk rfl (Gk rfl (Gk rfl (Gk rfl (Gk rfl (Gk rfl (Gk rfl (Gk rfl (Gk rfl (Gk rfl (Gk rfl (all_nil)))))))))))))))))))))))))))))))) (fun _=>rfl) rfl ?_
    intro y W2 hbW2 _
    have hbr2:=ae hbr hbW2
    clear hbW2
    clear c1 c1i c2
    go_wp2
    go_ret
    rw[hp7.out]
    exact⟨rfl,hbr2⟩
theorem mM {m:Ma} {p:Option Cc} {c:Cc} (h:c.f<0∨(m.st.fs.length:Int)≤c.f∨c.i<0∨((fileAt m.st c.f).b.length:Int)≤c.i∨c.k<0∨(m.m.fs.length:Int)≤c.k):mi m p c=3:=by
 unfold mi;rw[if_pos h]
theorem CS (H:MH) (b:Nat) (w:World) (hbk:aB w b (bM H) 40) (h:qV w H) :
  Calls Try.prog 36 #[.pointer (some ⟨b,0,none⟩)] w fun r w'=>r = .returned (.int .i64 (cachedE H.ma))∧Below w.heap.size w w':=by
 have hmm:=h.ca.le
 have hmx:=h.ca.mx
 unfold maxLen at hmx
 go_enter Try.func36,Try.ntmps36
 have hcb:=hbk.cell
 unfold bM at hcb
 obtain⟨L,hL⟩:∃L,L=(List.range H.ca.length).map fun k=>mi H.ma (qh H.ca k) (H.ca.getD k zCc):=⟨_,rfl⟩
 have hLl:Hid (L.length=H.ca.length):=Lib.hid (by rw[hL];simp)
 have hLE:Hid (cachedE H.ma=firstE L):=Lib.hid (by rw[hL];rfl)
 have hLg:Hid (∀k (hk:k<L.length),L[k]=mi H.ma (qh H.ca k) (H.ca.getD k zCc)):=Lib.hid fun k hk=>by simp[hL]
 clear hL
 go_upto_region 2 with (fail)
 clear hcb
 go_loopw [11] (fun i wr => ∃(k:Nat),k≤H.ca.length∧i = .int .i64 k∧Below w.heap.size w wr∧Hid (∀j (hj:j<L.length),j<k→L[j]=0)) (fun i _=>H.ca.length-(intOf i).toNat)
 case atStart=>exact⟨0,Nat.zero_le _,rfl,Below.refl _ _,Lib.hid fun j _ hj=>absurd hj (Nat.not_lt_zero _)⟩
 case round=>
  obtain⟨k,hk,rfl,hbr,hz⟩:=hrel
  by_cases hkl:k<H.ca.length
  ·obtain⟨bc,oc,hac,hrd⟩:=fE ku (by decide) (h.below hbr).ca.rd k hkl
   have hki:(k:Int)<(H.ca.length:Int):=by omega
   have hkL:k<L.length:=by rw[hLl.out];exact hkl
   have hE:Hid (L[k]=mi H.ma (qh H.ca k) H.ca[k]):=Lib.hid (by rw[hLg.out k hkL,List.getD_eq_getElem?_getD,List.getElem?_eq_getElem hkl];rfl)
   have hfin:Hid (L[k]≠0→cachedE H.ma=L[k]):=Lib.hid fun hne=>by rw[hLE.out,pu k hkL hz.out hne]
   have hnx:Hid (L[k]=0→∀j (hj:j<L.length),j<k+1→L[j]=0):=Lib.hid fun h0 j hj hjk=>by
    by_cases e:j=k
    ·subst e;exact h0
    ·exact hz.out j hj (by omega)
   generalize hLk:L[k]=Lk at *
   have hpv:Hid (qh H.ca k=if k=0 then none else H.ca[k-1]?):=Lib.hid rfl
   generalize hc:H.ca[k]=c at *
   rw[hac]
   clear hz hkL hLk hc
   go_wp2_with (first | (refine ak _ _ rfl bc (oc+k*3) rfl rfl _ hrd _ Try.underlying85 rfl cached_size ?_) | (refine aD rfl _ _ _ rfl (sN c) rfl rfl rfl cached_size (nJ c) ?_))
   intro w3 hb3 cx
   have hbr3:=ae hbr hb3
   have hbk3:=hbk.ext hbr3
   have hr3:=h.below hbr3
   generalize wr.heap.size=gc at cx ⊢
   clear hb3 hrd hbr
   go_upto_region 4 with (fail)
   obtain⟨bf,of,F,P,hai,hFl,hcF,hcs⟩:∃(bf of F:Nat) (P:PF),(0≤c.f→c.f<H.fi.length→H.ai=some ⟨bf,of,none⟩)∧(0≤c.f→c.f<H.fi.length→F<H.fi.length)∧(0≤c.f→c.f<H.fi.length→c.f=(F:Int)∧fileAt H.ma.st c.f=P.fi)∧(0≤c.f→c.f<H.fi.length→∀W,Below w3.heap.size w3 W→W.cell? ⟨bf,of+F*2+1,none⟩=some (.slice P.a P.l.length P.c)):=by
    by_cases hc0:0≤c.f∧c.f<H.fi.length
    ·have hFl:c.f.toNat<H.fi.length:=by omega
     obtain⟨bf,of,P,hai,hP,hcn,hcs⟩:=xV hr3.st.rd c.f.toNat hFl
     refine⟨bf,of,c.f.toNat,P,fun _ _=>hai,fun _ _=>hFl,fun _ _=>⟨by omega,?_⟩,fun _ _ W hb => ?_⟩
     ·have:(H.fi.map PF.fi)[c.f.toNat]?=some P.fi:=by rw[List.getElem?_map,hP];rfl
      have h2:=jP (s:=H.ma.st) (F:=c.f.toNat) this
      rw[←h2]
      congr 1;omega
     ·obtain⟨bf',of',P',hai',hP',hcn',hcs'⟩:=xV (hr3.below hb).st.rd c.f.toNat hFl
      rw[hP] at hP'
      cases hP'
      rw[hai] at hai'
      cases hai'
      exact hcs'
    ·exact⟨0,0,0,⟨0,none,[],0⟩,fun h1 h2=>absurd ⟨h1,h2⟩ hc0,fun h1 h2=>absurd ⟨h1,h2⟩ hc0,fun h1 h2=>absurd ⟨h1,h2⟩ hc0,fun h1 h2=>absurd ⟨h1,h2⟩ hc0⟩
   by_cases c1:c.f<0
   ·have hbad:Hid (c.f<0∨(H.ma.st.fs.length:Int)≤c.f∨c.i<0∨((fileAt H.ma.st c.f).b.length:Int)≤c.i∨c.k<0∨(H.ma.m.fs.length:Int)≤c.k):=Lib.hid (.inl c1)
    refine aC 51 [_,_,_,_,_,_,_,_,_,_,_,_,_,_,_,_,_,_,_,_,_,_,_,_,_,_,_,_,_,_,_,_,_,_,_,_,_,_,_,_,_,_,_,_,_,_,_,_,_,_,.v (.bool true)] (Gf gc 0 rfl rfl (Gl cx rfl rfl rfl rfl rfl (Gb (.bool true) (by simp[go_sem,c1]) rfl rfl rfl rfl rfl (Gk rfl (Gk rfl (Gk rfl (Gk rfl (Gk rfl (Gk rfl (Gk rfl (Gk rfl (Gk rfl (Gk rfl (Gk rfl (Gk rfl (Gk rfl (Gk rfl (Gk rfl (Gk rfl (Gk rfl (Gk rfl (Gk rfl (Gk rfl (Gk rfl (Gk rfl (Gk rfl (Gk rfl (Gk rfl (Gk rfl (Gk rfl (Gk rfl (Gk rfl (Gk rfl (Gk rfl (Gk rfl (Gk rfl (Gk rfl (Gk rfl (Gk rfl (Gk rfl (Gk rfl (Gk rfl (Gk rfl (Gk rfl (Gk rfl (Gk rfl (Gk rfl (Gk rfl (Gk rfl (Gk rfl (Gk rfl (all_nil)))))))))))))))))))))))))))))))))))))))))))))))))))) (fun _=>rfl) rfl ?_
    intro y W4 hbW4 _
    have hbr4:=ae hbr3 hbW4
    replace cx:=cx.ext hbW4
    clear hbW4
    have hL3:Hid (Lk=3):=Lib.hid (by rw[hE.out];exact mM hbad.out)
    have hq:Hid (cachedE H.ma=3):=Lib.hid (by rw[hfin.out (by rw[hL3.out];decide),hL3.out])
    clear hai hFl hcF hcs
    go_wp2
    go_ret
    rw[hq.out]
    exact⟨rfl,hbr4⟩
   have hfl:Hid (H.ma.st.fs.length=H.fi.length):=Lib.hid (List.length_map _)
   by_cases c2:(H.fi.length:Int)≤c.f
   ·have hbad:Hid (c.f<0∨(H.ma.st.fs.length:Int)≤c.f∨c.i<0∨((fileAt H.ma.st c.f).b.length:Int)≤c.i∨c.k<0∨(H.ma.m.fs.length:Int)≤c.k):=Lib.hid (.inr (.inl (by rw[hfl.out];exact c2)))
    refine aC 51 [_,_,_,_,_,_,_,_,_,_,_,_,_,_,_,_,_,_,_,_,_,_,_,_,_,_,_,_,_,_,_,_,_,_,_,_,_,_,_,_,_,_,_,_,_,_,_,_,_,_,.v (.bool true)] (Gf gc 0 rfl rfl (Gl cx rfl rfl rfl rfl rfl (Gb (.bool false) (by simp[go_sem,c1]) rfl rfl rfl rfl rfl (Gk rfl (Gf gc 0 rfl rfl (Gl cx rfl rfl rfl rfl rfl (Gk rfl (Gk rfl (Gf b 7 rfl rfl (Gf b 7 rfl rfl (Gl hbk3 rfl rfl rfl rfl rfl (Gn rfl rfl rfl rfl (Gb (.bool true) (by simp[go_sem,c2]) rfl rfl rfl rfl rfl (Gk rfl (Gk rfl (Gk rfl (Gk rfl (Gk rfl (Gk rfl (Gk rfl (Gk rfl (Gk rfl (Gk rfl (Gk rfl (Gk rfl (Gk rfl (Gk rfl (Gk rfl (Gk rfl (Gk rfl (Gk rfl (Gk rfl (Gk rfl (Gk rfl (Gk rfl (Gk rfl (Gk rfl (Gk rfl (Gk rfl (Gk rfl (Gk rfl (Gk rfl (Gk rfl (Gk rfl (Gk rfl (Gk rfl (Gk rfl (Gk rfl (Gk rfl (Gk rfl (Gk rfl (all_nil)))))))))))))))))))))))))))))))))))))))))))))))))))) (fun _=>rfl) rfl ?_
    intro y W4 hbW4 _
    have hbr4:=ae hbr3 hbW4
    replace cx:=cx.ext hbW4
    clear hbW4
    have hL3:Hid (Lk=3):=Lib.hid (by rw[hE.out];exact mM hbad.out)
    have hq:Hid (cachedE H.ma=3):=Lib.hid (by rw[hfin.out (by rw[hL3.out];decide),hL3.out])
    clear hai hFl hcF hcs
    go_wp2
    go_ret
    rw[hq.out]
    exact⟨rfl,hbr4⟩
   replace hai:=hai (by omega) (by omega)
   replace hFl:=hFl (by omega) (by omega)
   obtain⟨hcF,hfA⟩:=hcF (by omega) (by omega)
   replace hcs:=hcs (by omega) (by omega)
   have hfA':=Lib.hid hfA
   clear hfA
   by_cases c3:c.i<0
   ·have hbad:Hid (c.f<0∨(H.ma.st.fs.length:Int)≤c.f∨c.i<0∨((fileAt H.ma.st c.f).b.length:Int)≤c.i∨c.k<0∨(H.ma.m.fs.length:Int)≤c.k):=Lib.hid (.inr (.inr (.inl c3)))
    refine aC 51 [_,_,_,_,_,_,_,_,_,_,_,_,_,_,_,_,_,_,_,_,_,_,_,_,_,_,_,_,_,_,_,_,_,_,_,_,_,_,_,_,_,_,_,_,_,_,_,_,_,_,.v (.bool true)] (Gf gc 0 rfl rfl (Gl cx rfl rfl rfl rfl rfl (Gb (.bool false) (by simp[go_sem,c1]) rfl rfl rfl rfl rfl (Gk rfl (Gf gc 0 rfl rfl (Gl cx rfl rfl rfl rfl rfl (Gk rfl (Gk rfl (Gf b 7 rfl rfl (Gf b 7 rfl rfl (Gl hbk3 rfl rfl rfl rfl rfl (Gn rfl rfl rfl rfl (Gb (.bool false) (by simp[go_sem,c2]) rfl rfl rfl rfl rfl (Gk rfl (Gk rfl (Gf gc 1 rfl rfl (Gl cx rfl rfl rfl rfl rfl (Gb (.bool true) (by simp[go_sem,c3]) rfl rfl rfl rfl rfl (Gk rfl (Gk rfl (Gk rfl (Gk rfl (Gk rfl (Gk rfl (Gk rfl (Gk rfl (Gk rfl (Gk rfl (Gk rfl (Gk rfl (Gk rfl (Gk rfl (Gk rfl (Gk rfl (Gk rfl (Gk rfl (Gk rfl (Gk rfl (Gk rfl (Gk rfl (Gk rfl (Gk rfl (Gk rfl (Gk rfl (Gk rfl (Gk rfl (Gk rfl (Gk rfl (Gk rfl (Gk rfl (Gk rfl (all_nil)))))))))))))))))))))))))))))))))))))))))))))))))))) (fun _=>rfl) rfl ?_
    intro y W4 hbW4 _
    have hbr4:=ae hbr3 hbW4
    replace cx:=cx.ext hbW4
    clear hbW4
    have hL3:Hid (Lk=3):=Lib.hid (by rw[hE.out];exact mM hbad.out)
    have hq:Hid (cachedE H.ma=3):=Lib.hid (by rw[hfin.out (by rw[hL3.out];decide),hL3.out])
    clear hai hFl hcF hcs
    go_wp2
    go_ret
    rw[hq.out]
    exact⟨rfl,hbr4⟩
   by_cases c4:(P.l.length:Int)≤c.i
   ·have hbad:Hid (c.f<0∨(H.ma.st.fs.length:Int)≤c.f∨c.i<0∨((fileAt H.ma.st c.f).b.length:Int)≤c.i∨c.k<0∨(H.ma.m.fs.length:Int)≤c.k):=Lib.hid (.inr (.inr (.inr (.inl (by rw[hfA'.out];exact c4)))))
    refine aC 51 [_,_,_,_,_,_,_,_,_,_,_,_,_,_,_,_,_,_,_,_,_,_,_,_,_,_,_,_,_,_,_,_,_,_,_,_,_,_,_,_,_,_,_,_,_,_,_,_,_,_,.v (.bool true)] (Gf gc 0 rfl rfl (Gl cx rfl rfl rfl rfl rfl (Gb (.bool false) (by simp[go_sem,c1]) rfl rfl rfl rfl rfl (Gk rfl (Gf gc 0 rfl rfl (Gl cx rfl rfl rfl rfl rfl (Gk rfl (Gk rfl (Gf b 7 rfl rfl (Gf b 7 rfl rfl (Gl hbk3 rfl rfl rfl rfl rfl (Gn rfl rfl rfl rfl (Gb (.bool false) (by simp[go_sem,c2]) rfl rfl rfl rfl rfl (Gk rfl (Gk rfl (Gf gc 1 rfl rfl (Gl cx rfl rfl rfl rfl rfl (Gb (.bool false) (by simp[go_sem,c3]) rfl rfl rfl rfl rfl (Gk rfl (Gk rfl (Gf gc 1 rfl rfl (Gl cx rfl rfl rfl rfl rfl (Gk rfl (Gk rfl (Gf b 7 rfl rfl (Gf b 7 rfl rfl (Gl hbk3 (V:=.slice (some ⟨bf,of,none⟩) H.fi.length H.ci) (by simp[bM,hai]) rfl rfl rfl rfl (Gf gc 0 rfl rfl (Gl cx (V:=.int .i64 (F:Int)) (by simp[sN,hcF]) rfl rfl rfl rfl (Gr (.pointer (some ⟨bf,of+F*2,none⟩)) (fun ρ y W hb hKn=>(aR rfl (az rfl hKn) (az rfl hKn) hFl Try.underlying34 file_size)) rfl rfl (Gf bf (of+F*2+1) rfl rfl (Gc (.slice P.a P.l.length P.c) (fun W hb=>by simp[hcs _ hb]) rfl rfl rfl rfl (Gn rfl rfl rfl rfl (Gb (.bool true) (by simp[go_sem,c4]) rfl rfl rfl rfl rfl (Gk rfl (Gk rfl (Gk rfl (Gk rfl (Gk rfl (Gk rfl (Gk rfl (Gk rfl (Gk rfl (Gk rfl (Gk rfl (Gk rfl (Gk rfl (Gk rfl (Gk rfl (Gk rfl (Gk rfl (all_nil)))))))))))))))))))))))))))))))))))))))))))))))))))) (fun _=>rfl) rfl ?_
    intro y W4 hbW4 _
    have hbr4:=ae hbr3 hbW4
    replace cx:=cx.ext hbW4
    clear hbW4
    have hL3:Hid (Lk=3):=Lib.hid (by rw[hE.out];exact mM hbad.out)
    have hq:Hid (cachedE H.ma=3):=Lib.hid (by rw[hfin.out (by rw[hL3.out];decide),hL3.out])
    clear hai hFl hcF hcs
    go_wp2
    go_ret
    rw[hq.out]
    exact⟨rfl,hbr4⟩
   by_cases c5:c.k<0
   ·have hbad:Hid (c.f<0∨(H.ma.st.fs.length:Int)≤c.f∨c.i<0∨((fileAt H.ma.st c.f).b.length:Int)≤c.i∨c.k<0∨(H.ma.m.fs.length:Int)≤c.k):=Lib.hid (.inr (.inr (.inr (.inr (.inl c5)))))
    refine aC 51 [_,_,_,_,_,_,_,_,_,_,_,_,_,_,_,_,_,_,_,_,_,_,_,_,_,_,_,_,_,_,_,_,_,_,_,_,_,_,_,_,_,_,_,_,_,_,_,_,_,_,.v (.bool true)] (Gf gc 0 rfl rfl (Gl cx rfl rfl rfl rfl rfl (Gb (.bool false) (by simp[go_sem,c1]) rfl rfl rfl rfl rfl (Gk rfl (Gf gc 0 rfl rfl (Gl cx rfl rfl rfl rfl rfl (Gk rfl (Gk rfl (Gf b 7 rfl rfl (Gf b 7 rfl rfl (Gl hbk3 rfl rfl rfl rfl rfl (Gn rfl rfl rfl rfl (Gb (.bool false) (by simp[go_sem,c2]) rfl rfl rfl rfl rfl (Gk rfl (Gk rfl (Gf gc 1 rfl rfl (Gl cx rfl rfl rfl rfl rfl (Gb (.bool false) (by simp[go_sem,c3]) rfl rfl rfl rfl rfl (Gk rfl (Gk rfl (Gf gc 1 rfl rfl (Gl cx rfl rfl rfl rfl rfl (Gk rfl (Gk rfl (Gf b 7 rfl rfl (Gf b 7 rfl rfl (Gl hbk3 (V:=.slice (some ⟨bf,of,none⟩) H.fi.length H.ci) (by simp[bM,hai]) rfl rfl rfl rfl (Gf gc 0 rfl rfl (Gl cx (V:=.int .i64 (F:Int)) (by simp[sN,hcF]) rfl rfl rfl rfl (Gr (.pointer (some ⟨bf,of+F*2,none⟩)) (fun ρ y W hb hKn=>(aR rfl (az rfl hKn) (az rfl hKn) hFl Try.underlying34 file_size)) rfl rfl (Gf bf (of+F*2+1) rfl rfl (Gc (.slice P.a P.l.length P.c) (fun W hb=>by simp[hcs _ hb]) rfl rfl rfl rfl (Gn rfl rfl rfl rfl (Gb (.bool false) (by simp[go_sem,c4]) rfl rfl rfl rfl rfl (Gk rfl (Gk rfl (Gf gc 2 rfl rfl (Gl cx rfl rfl rfl rfl rfl (Gb (.bool true) (by simp[go_sem,c5]) rfl rfl rfl rfl rfl (Gk rfl (Gk rfl (Gk rfl (Gk rfl (Gk rfl (Gk rfl (Gk rfl (Gk rfl (Gk rfl (Gk rfl (Gk rfl (Gk rfl (all_nil)))))))))))))))))))))))))))))))))))))))))))))))))))) (fun _=>rfl) rfl ?_
    intro y W4 hbW4 _
    have hbr4:=ae hbr3 hbW4
    replace cx:=cx.ext hbW4
    clear hbW4
    have hL3:Hid (Lk=3):=Lib.hid (by rw[hE.out];exact mM hbad.out)
    have hq:Hid (cachedE H.ma=3):=Lib.hid (by rw[hfin.out (by rw[hL3.out];decide),hL3.out])
    clear hai hFl hcF hcs
    go_wp2
    go_ret
    rw[hq.out]
    exact⟨rfl,hbr4⟩
   by_cases c6:(H.m.fs.length:Int)≤c.k
   ·have hbad:Hid (c.f<0∨(H.ma.st.fs.length:Int)≤c.f∨c.i<0∨((fileAt H.ma.st c.f).b.length:Int)≤c.i∨c.k<0∨(H.ma.m.fs.length:Int)≤c.k):=Lib.hid (.inr (.inr (.inr (.inr (.inr c6)))))
    refine aC 51 [_,_,_,_,_,_,_,_,_,_,_,_,_,_,_,_,_,_,_,_,_,_,_,_,_,_,_,_,_,_,_,_,_,_,_,_,_,_,_,_,_,_,_,_,_,_,_,_,_,_,.v (.bool true)] (Gf gc 0 rfl rfl (Gl cx rfl rfl rfl rfl rfl (Gb (.bool false) (by simp[go_sem,c1]) rfl rfl rfl rfl rfl (Gk rfl (Gf gc 0 rfl rfl (Gl cx rfl rfl rfl rfl rfl (Gk rfl (Gk rfl (Gf b 7 rfl rfl (Gf b 7 rfl rfl (Gl hbk3 rfl rfl rfl rfl rfl (Gn rfl rfl rfl rfl (Gb (.bool false) (by simp[go_sem,c2]) rfl rfl rfl rfl rfl (Gk rfl (Gk rfl (Gf gc 1 rfl rfl (Gl cx rfl rfl rfl rfl rfl (Gb (.bool false) (by simp[go_sem,c3]) rfl rfl rfl rfl rfl (Gk rfl (Gk rfl (Gf gc 1 rfl rfl (Gl cx rfl rfl rfl rfl rfl (Gk rfl (Gk rfl (Gf b 7 rfl rfl (Gf b 7 rfl rfl (Gl hbk3 (V:=.slice (some ⟨bf,of,none⟩) H.fi.length H.ci) (by simp[bM,hai]) rfl rfl rfl rfl (Gf gc 0 rfl rfl (Gl cx (V:=.int .i64 (F:Int)) (by simp[sN,hcF]) rfl rfl rfl rfl (Gr (.pointer (some ⟨bf,of+F*2,none⟩)) (fun ρ y W hb hKn=>(aR rfl (az rfl hKn) (az rfl hKn) hFl Try.underlying34 file_size)) rfl rfl (Gf bf (of+F*2+1) rfl rfl (Gc (.slice P.a P.l.length P.c) (fun W hb=>by simp[hcs _ hb]) rfl rfl rfl rfl (Gn rfl rfl rfl rfl (Gb (.bool false) (by simp[go_sem,c4]) rfl rfl rfl rfl rfl (Gk rfl (Gk rfl (Gf gc 2 rfl rfl (Gl cx rfl rfl rfl rfl rfl (Gb (.bool false) (by simp[go_sem,c5]) rfl rfl rfl rfl rfl (Gk rfl (Gk rfl (Gf gc 2 rfl rfl (Gl cx rfl rfl rfl rfl rfl (Gk rfl (Gk rfl (Gf b 0 rfl rfl (Gf b 0 rfl rfl (Gl hbk3 rfl rfl rfl rfl rfl (Gn rfl rfl rfl rfl (Gb (.bool true) (by simp[go_sem,c6]) rfl rfl rfl rfl rfl (Gk rfl (all_nil)))))))))))))))))))))))))))))))))))))))))))))))))))) (fun _=>rfl) rfl ?_
    intro y W4 hbW4 _
    have hbr4:=ae hbr3 hbW4
    replace cx:=cx.ext hbW4
    clear hbW4
    have hL3:Hid (Lk=3):=Lib.hid (by rw[hE.out];exact mM hbad.out)
    have hq:Hid (cachedE H.ma=3):=Lib.hid (by rw[hfin.out (by rw[hL3.out];decide),hL3.out])
    clear hai hFl hcF hcs
    go_wp2
    go_ret
    rw[hq.out]
    exact⟨rfl,hbr4⟩
   refine aC 51 [_,_,_,_,_,_,_,_,_,_,_,_,_,_,_,_,_,_,_,_,_,_,_,_,_,_,_,_,_,_,_,_,_,_,_,_,_,_,_,_,_,_,_,_,_,_,_,_,_,_,.v (.bool false)] (Gf gc 0 rfl rfl (Gl cx rfl rfl rfl rfl rfl (Gb (.bool false) (by simp[go_sem,c1]) rfl rfl rfl rfl rfl (Gk rfl (Gf gc 0 rfl rfl (Gl cx rfl rfl rfl rfl rfl (Gk rfl (Gk rfl (Gf b 7 rfl rfl (Gf b 7 rfl rfl (Gl hbk3 rfl rfl rfl rfl rfl (Gn rfl rfl rfl rfl (Gb (.bool false) (by simp[go_sem,c2]) rfl rfl rfl rfl rfl (Gk rfl (Gk rfl (Gf gc 1 rfl rfl (Gl cx rfl rfl rfl rfl rfl (Gb (.bool false) (by simp[go_sem,c3]) rfl rfl rfl rfl rfl (Gk rfl (Gk rfl (Gf gc 1 rfl rfl (Gl cx rfl rfl rfl rfl rfl (Gk rfl (Gk rfl (Gf b 7 rfl rfl (Gf b 7 rfl rfl (Gl hbk3 (V:=.slice (some ⟨bf,of,none⟩) H.fi.length H.ci) (by simp[bM,hai]) rfl rfl rfl rfl (Gf gc 0 rfl rfl (Gl cx (V:=.int .i64 (F:Int)) (by simp[sN,hcF]) rfl rfl rfl rfl (Gr (.pointer (some ⟨bf,of+F*2,none⟩)) (fun ρ y W hb hKn=>(aR rfl (az rfl hKn) (az rfl hKn) hFl Try.underlying34 file_size)) rfl rfl (Gf bf (of+F*2+1) rfl rfl (Gc (.slice P.a P.l.length P.c) (fun W hb=>by simp[hcs _ hb]) rfl rfl rfl rfl (Gn rfl rfl rfl rfl (Gb (.bool false) (by simp[go_sem,c4]) rfl rfl rfl rfl rfl (Gk rfl (Gk rfl (Gf gc 2 rfl rfl (Gl cx rfl rfl rfl rfl rfl (Gb (.bool false) (by simp[go_sem,c5]) rfl rfl rfl rfl rfl (Gk rfl (Gk rfl (Gf gc 2 rfl rfl (Gl cx rfl rfl rfl rfl rfl (Gk rfl (Gk rfl (Gf b 0 rfl rfl (Gf b 0 rfl rfl (Gl hbk3 rfl rfl rfl rfl rfl (Gn rfl rfl rfl rfl (Gb (.bool false) (by simp[go_sem,c6]) rfl rfl rfl rfl rfl (Gk rfl (all_nil)))))))))))))))))))))))))))))))))))))))))))))))))))) (fun _=>rfl) rfl ?_
   intro y W4 hbW4 _
   have hbr4:=ae hbr3 hbW4
   replace cx:=cx.ext hbW4
   clear hbW4
   obtain⟨K,hcK⟩:∃K:Nat,c.k=K:=⟨c.k.toNat,by omega⟩
   have hKl:K<H.m.fs.length:=by omega
   have hbk4:=hbk.ext hbr4
   have hr4:=h.below hbr4
   obtain⟨bg,og,haf,hfrd⟩:=fE eu (by decide) hr4.fr.rd K hKl
   have hE7:Hid (Lk=if (bn H.ma K).r<1∨(bn H.ma K).f≠c.f∨(bn H.ma K).i≠c.i then 7 else match qh H.ca k with
    | none=>0
    | some q=>if c.f<q.f∨q.f=c.f∧c.i≤q.i then 2 else 0):=Lib.hid (by
    rw[hE.out]
    unfold mi
    rw[if_neg (by rw[hfl.out,hfA'.out];show ¬(c.f<0∨(H.fi.length:Int)≤c.f∨c.i<0∨(P.l.length:Int)≤c.i∨c.k<0∨(H.m.fs.length:Int)≤c.k);omega),hcK]
    rfl)
   have hxf:H.m.fs[K]=bn H.ma K:=by
    have:=zB (m:=H.ma) (f:=K) hKl
    have h2:H.m.fs[K]?=some (bn H.ma K):=this
    rw[List.getElem?_eq_getElem hKl] at h2
    exact Option.some.inj h2
   rw[hxf] at hfrd
   generalize bn H.ma K=x at *
   clear hxf hai hFl hcs hfA' hfl hbk3 hr3 c2 c3 c4 c5 c6 c1 hE hcF
   go_upto_region 6 with (fail)
   refine aC 10 [_,_,_,_,_,_,_,_,_,.r 9 ((mE W4.heap.size 59 13))] (Gk rfl (Gk rfl (Gf b 0 rfl rfl (Gf b 0 rfl rfl (Gl hbk4 (V:=.slice (some ⟨bg,og,none⟩) H.m.fs.length H.cf) (by simp[bM,haf]) rfl rfl rfl rfl (Gf gc 2 rfl rfl (Gl cx (V:=.int .i64 (K:Int)) (by simp[sN,hcK]) rfl rfl rfl rfl (Gr (.pointer (some ⟨bg,og+K*13,none⟩)) (fun ρ y W hb hKn=>(aR rfl (az rfl hKn) (az rfl hKn) hKl Try.underlying25 frame_size)) rfl rfl (Gr (.agg (qa x)) (fun ρ y W hb hKn=>(bN rfl (az rfl hKn) (hfrd.below hb) Try.underlying59 rfl frame_size)) rfl rfl (all_cons ?_ (all_nil))))))))))) (fun _=>rfl) rfl ?_
   ·intro ρ y W hw hn hb hd
    refine jb (.pointer (some ⟨W.heap.size,0,none⟩)) (ag rfl) (by simp[execOp,go_sem]) ((Below.refl _ _).alloc (Nat.le_refl _) (.cells #[.int .u8 0,.int .u8 0,.int .u8 0,.int .u8 0,.int .u8 0,.int .u8 0,.int .u8 0,.int .u8 0,.int .i64 0,.bool false,.bool false,.int .i64 0,.int .i64 0] 59)) ?_
    exact⟨_,_,rfl,hb.size,aB.new _ _ _,rfl⟩
   intro y W5 hbW5 hRW5
   have hy9:((mE W4.heap.size 59 13)).r (y 9) W5:=hRW5 9 (by decide)
   clear hRW5
   obtain⟨gx,curx,hgx,hgxs,hbx,hszx⟩:=hy9
   rw[hgx]
   go_wp2_with (refine eG rfl _ _ _ rfl gx 0 (qa x) rfl rfl _ _ hbx (by rw[hszx];exact Nat.le_refl _) frame_size (kV x) ?_)
   intro w6 hb6 hg6
   rw[gN _ _ (by rw[hszx];rfl)] at hb6
   have hbel6:Below W4.heap.size W4 w6:=hbW5.grown hg6 hbW5.size (fun k hk=>by cases hk;exact hgxs)
   have hbr6:=ae hbr4 hbel6
   have cx6:=cx.ext hbel6
   have hbk6:=hbk.ext hbr6
   clear hbx hbW5 hg6 cx hbk4 hr4 hfrd hbel6 hgx
   have hcx:=hb6.cell
   unfold qa at hcx
   have hcc:=cx6.cell
   unfold sN at hcc
   by_cases d1:x.r<1
   ·have hL7:Hid (Lk=7):=Lib.hid (by rw[hE7.out,if_pos (.inl d1)])
    have hq:Hid (cachedE H.ma=7):=Lib.hid (by rw[hfin.out (by rw[hL7.out];decide),hL7.out])
    clear hbk6
    go_wp2
    go_ret
    rw[hq.out]
    exact⟨rfl,hbr6⟩
   by_cases d2:x.f=c.f
   rotate_left
   ·have hL7:Hid (Lk=7):=Lib.hid (by rw[hE7.out,if_pos (.inr (.inl d2))])
    have hq:Hid (cachedE H.ma=7):=Lib.hid (by rw[hfin.out (by rw[hL7.out];decide),hL7.out])
    clear hbk6
    go_wp2
    go_ret
    rw[hq.out]
    exact⟨rfl,hbr6⟩
   by_cases d3:x.i=c.i
   rotate_left
   ·have hL7:Hid (Lk=7):=Lib.hid (by rw[hE7.out,if_pos (.inr (.inr d3))])
    have hq:Hid (cachedE H.ma=7):=Lib.hid (by rw[hfin.out (by rw[hL7.out];decide),hL7.out])
    clear hbk6
    go_wp2
    go_ret
    rw[hq.out]
    exact⟨rfl,hbr6⟩
   rw[if_neg (by rintro (h | h | h);exact d1 h;exact h d2;exact h d3)] at hE7
   go_upto_region 9 with (fail)
   clear hcx hcc hb6 d1 d2 d3
   obtain⟨k1,q,hk1,hk1l,hq0,hq1,hkq⟩:∃(k1:Nat) (q:Cc),(0<k→IntKind.i64.wrap ((k:Int)-1)=(k1:Int))∧(0<k→k1<H.ca.length)∧(0<k→∀W,Below w6.heap.size w6 W→W.cell? ⟨bc,oc+k1*3,none⟩=some (.int .i64 q.f))∧(0<k→∀W,Below w6.heap.size w6 W→W.cell? ⟨bc,oc+k1*3+1,none⟩=some (.int .i64 q.i))∧(0<k→qh H.ca k=some q):=by
    by_cases h0:0<k
    ·have hkl1:k-1<H.ca.length:=by omega
     have hcell:∀W,Below w6.heap.size w6 W→W.cell? ⟨bc,oc+(k-1)*3,none⟩=some (.int .i64 H.ca[k-1].f)∧W.cell? ⟨bc,oc+(k-1)*3+1,none⟩=some (.int .i64 H.ca[k-1].i):=fun W hb=>by
      obtain⟨bc',oc',c',hac',hc',e1,e2,_⟩:=Mq (h.below (ae hbr6 hb)).ca.rd (k-1) hkl1
      rw[List.getElem?_eq_getElem hkl1] at hc'
      cases hc'
      rw[hac] at hac'
      cases hac'
      exact⟨e1,e2⟩
     refine⟨k-1,H.ca[k-1],fun _ => ?_,fun _=>hkl1,fun _ W hb=>(hcell W hb).1,fun _ W hb=>(hcell W hb).2,fun _ => ?_⟩
     ·rw[show (k:Int)-1=((k-1:Nat):Int) by omega]
      exact IntWalk.i64_in _ (by omega)
     ·rw[hpv.out,if_neg (by omega),List.getElem?_eq_getElem hkl1]
    ·exact⟨0,zCc,fun h'=>absurd h' h0,fun h'=>absurd h' h0,fun h'=>absurd h' h0,fun h'=>absurd h' h0,fun h'=>absurd h' h0⟩
   by_cases e1:k=0
   ·have e1i:¬(0:Int)<(k:Int):=by omega
    have hL0:Hid (Lk=0):=Lib.hid (by rw[hE7.out,hpv.out,if_pos e1])
    refine aC 44 [_,_,_,_,_,_,_,_,_,_,_,_,_,_,_,_,_,_,_,_,_,_,_,_,_,_,_,_,_,_,_,_,_,_,_,_,_,_,_,_,_,_,_,.v (.bool false)] (Gk rfl (Gb (.bool false) (by simp[go_sem,e1]) rfl rfl rfl rfl rfl (Gk rfl (Gk rfl (Gk rfl (Gk rfl (Gk rfl (Gk rfl (Gk rfl (Gk rfl (Gk rfl (Gk rfl (Gk rfl (Gk rfl (Gk rfl (Gk rfl (Gk rfl (Gk rfl (Gk rfl (Gk rfl (Gk rfl (Gk rfl (Gk rfl (Gk rfl (Gk rfl (Gk rfl (Gk rfl (Gk rfl (Gk rfl (Gk rfl (Gk rfl (Gk rfl (Gk rfl (Gk rfl (Gk rfl (Gk rfl (Gk rfl (Gk rfl (Gk rfl (Gk rfl (Gk rfl (Gk rfl (Gk rfl (Gk rfl (all_nil))))))))))))))))))))))))))))))))))))))))))))) (fun _=>rfl) rfl ?_
    intro y W7 hbW7 _
    have hbr7:=ae hbr6 hbW7
    clear hbW7
    have hall:=Lib.hid (hnx.out hL0.out)
    clear hq0 hq1 hk1 hk1l cx6 hbk6
    go_wp2
    go_roundw
    case rel=>exact⟨k+1,by omega,by go_num,hbr7,hall⟩
    case measure=>simp[intOf];omega
   have e1i:0<k:=by omega
   replace hk1:=hk1 (by omega)
   replace hk1l:=hk1l (by omega)
   replace hq0:=hq0 (by omega)
   replace hq1:=hq1 (by omega)
   have hpq:=Lib.hid (hkq (by omega))
   clear hkq
   by_cases e2:c.f<q.f
   ·have hbad:Hid (c.f<q.f∨q.f=c.f∧c.i≤q.i):=Lib.hid (.inl e2)
    refine aC 44 [_,_,_,_,_,_,_,_,_,_,_,_,_,_,_,_,_,_,_,_,_,_,_,_,_,_,_,_,_,_,_,_,_,_,_,_,_,_,_,_,_,_,_,.v (.bool true)] (Gk rfl (Gb (.bool true) (by simp[go_sem,e1i]) rfl rfl rfl rfl rfl (Gk rfl (Gk rfl (Gk rfl (Gf b 9 rfl rfl (Gl hbk6 (V:=.slice (some ⟨bc,oc,none⟩) H.ca.length H.cc) (by simp[bM,hac]) rfl rfl rfl rfl (Gk rfl (Gb (.int .i64 (k1:Int)) (by simp[go_sem,hk1]) rfl rfl rfl rfl rfl (Gr (.pointer (some ⟨bc,oc+k1*3,none⟩)) (fun ρ y W hb hKn=>(aR rfl (az rfl hKn) (az rfl hKn) hk1l Try.underlying37 cached_size)) rfl rfl (Gf bc (oc+k1*3) rfl rfl (Gc (.int .i64 q.f) (fun W hb=>by simp[hq0 _ hb]) rfl rfl rfl rfl (Gf gc 0 rfl rfl (Gl cx6 rfl rfl rfl rfl rfl (Gb (.bool true) (by simp[go_sem,e2]) rfl rfl rfl rfl rfl (Gk rfl (Gk rfl (Gk rfl (Gk rfl (Gk rfl (Gk rfl (Gk rfl (Gk rfl (Gk rfl (Gk rfl (Gk rfl (Gk rfl (Gk rfl (Gk rfl (Gk rfl (Gk rfl (Gk rfl (Gk rfl (Gk rfl (Gk rfl (Gk rfl (Gk rfl (Gk rfl (Gk rfl (Gk rfl (Gk rfl (Gk rfl (Gk rfl (Gk rfl (all_nil))))))))))))))))))))))))))))))))))))))))))))) (fun _=>rfl) rfl ?_
    intro y W7 hbW7 _
    have hbr7:=ae hbr6 hbW7
    clear hbW7
    have hL2:Hid (Lk=2):=Lib.hid (by rw[hE7.out,hpq.out];simp only;rw[if_pos hbad.out])
    have hq:Hid (cachedE H.ma=2):=Lib.hid (by rw[hfin.out (by rw[hL2.out];decide),hL2.out])
    clear hq0 hq1 hk1 hk1l cx6 hbk6
    go_wp2
    go_ret
    rw[hq.out]
    exact⟨rfl,hbr7⟩
   by_cases e3:q.f=c.f
   ·by_cases e4:c.i≤q.i
    ·have hbad:Hid (c.f<q.f∨q.f=c.f∧c.i≤q.i):=Lib.hid (.inr ⟨e3,e4⟩)
     refine aC 44 [_,_,_,_,_,_,_,_,_,_,_,_,_,_,_,_,_,_,_,_,_,_,_,_,_,_,_,_,_,_,_,_,_,_,_,_,_,_,_,_,_,_,_,.v (.bool true)] (Gk rfl (Gb (.bool true) (by simp[go_sem,e1i]) rfl rfl rfl rfl rfl (Gk rfl (Gk rfl (Gk rfl (Gf b 9 rfl rfl (Gl hbk6 (V:=.slice (some ⟨bc,oc,none⟩) H.ca.length H.cc) (by simp[bM,hac]) rfl rfl rfl rfl (Gk rfl (Gb (.int .i64 (k1:Int)) (by simp[go_sem,hk1]) rfl rfl rfl rfl rfl (Gr (.pointer (some ⟨bc,oc+k1*3,none⟩)) (fun ρ y W hb hKn=>(aR rfl (az rfl hKn) (az rfl hKn) hk1l Try.underlying37 cached_size)) rfl rfl (Gf bc (oc+k1*3) rfl rfl (Gc (.int .i64 q.f) (fun W hb=>by simp[hq0 _ hb]) rfl rfl rfl rfl (Gf gc 0 rfl rfl (Gl cx6 rfl rfl rfl rfl rfl (Gb (.bool false) (by simp[go_sem,e2]) rfl rfl rfl rfl rfl (Gk rfl (Gk rfl (Gk rfl (Gf b 9 rfl rfl (Gl hbk6 (V:=.slice (some ⟨bc,oc,none⟩) H.ca.length H.cc) (by simp[bM,hac]) rfl rfl rfl rfl (Gk rfl (Gb (.int .i64 (k1:Int)) (by simp[go_sem,hk1]) rfl rfl rfl rfl rfl (Gr (.pointer (some ⟨bc,oc+k1*3,none⟩)) (fun ρ y W hb hKn=>(aR rfl (az rfl hKn) (az rfl hKn) hk1l Try.underlying37 cached_size)) rfl rfl (Gf bc (oc+k1*3) rfl rfl (Gc (.int .i64 q.f) (fun W hb=>by simp[hq0 _ hb]) rfl rfl rfl rfl (Gf gc 0 rfl rfl (Gl cx6 rfl rfl rfl rfl rfl (Gb (.bool true) (by simp[go_sem,e3]) rfl rfl rfl rfl rfl (Gk rfl (Gk rfl (Gk rfl (Gf b 9 rfl rfl (Gl hbk6 (V:=.slice (some ⟨bc,oc,none⟩) H.ca.length H.cc) (by simp[bM,hac]) rfl rfl rfl rfl (Gk rfl (Gb (.int .i64 (k1:Int)) (by simp[go_sem,hk1]) rfl rfl rfl rfl rfl (Gr (.pointer (some ⟨bc,oc+k1*3,none⟩)) (fun ρ y W hb hKn=>(aR rfl (az rfl hKn) (az rfl hKn) hk1l Try.underlying37 cached_size)) rfl rfl (Gf bc (oc+k1*3+1) rfl rfl (Gc (.int .i64 q.i) (fun W hb=>by simp[hq1 _ hb]) rfl rfl rfl rfl (Gf gc 1 rfl rfl (Gl cx6 rfl rfl rfl rfl rfl (Gb (.bool true) (by simp[go_sem,e4]) rfl rfl rfl rfl rfl (Gk rfl (Gk rfl (Gk rfl (all_nil))))))))))))))))))))))))))))))))))))))))))))) (fun _=>rfl) rfl ?_
     intro y W7 hbW7 _
     have hbr7:=ae hbr6 hbW7
     clear hbW7
     have hL2:Hid (Lk=2):=Lib.hid (by rw[hE7.out,hpq.out];simp only;rw[if_pos hbad.out])
     have hq:Hid (cachedE H.ma=2):=Lib.hid (by rw[hfin.out (by rw[hL2.out];decide),hL2.out])
     clear hq0 hq1 hk1 hk1l cx6 hbk6
     go_wp2
     go_ret
     rw[hq.out]
     exact⟨rfl,hbr7⟩
    ·have hL0:Hid (Lk=0):=Lib.hid (by rw[hE7.out,hpq.out];simp only;rw[if_neg (by omega)])
     refine aC 44 [_,_,_,_,_,_,_,_,_,_,_,_,_,_,_,_,_,_,_,_,_,_,_,_,_,_,_,_,_,_,_,_,_,_,_,_,_,_,_,_,_,_,_,.v (.bool false)] (Gk rfl (Gb (.bool true) (by simp[go_sem,e1i]) rfl rfl rfl rfl rfl (Gk rfl (Gk rfl (Gk rfl (Gf b 9 rfl rfl (Gl hbk6 (V:=.slice (some ⟨bc,oc,none⟩) H.ca.length H.cc) (by simp[bM,hac]) rfl rfl rfl rfl (Gk rfl (Gb (.int .i64 (k1:Int)) (by simp[go_sem,hk1]) rfl rfl rfl rfl rfl (Gr (.pointer (some ⟨bc,oc+k1*3,none⟩)) (fun ρ y W hb hKn=>(aR rfl (az rfl hKn) (az rfl hKn) hk1l Try.underlying37 cached_size)) rfl rfl (Gf bc (oc+k1*3) rfl rfl (Gc (.int .i64 q.f) (fun W hb=>by simp[hq0 _ hb]) rfl rfl rfl rfl (Gf gc 0 rfl rfl (Gl cx6 rfl rfl rfl rfl rfl (Gb (.bool false) (by simp[go_sem,e2]) rfl rfl rfl rfl rfl (Gk rfl (Gk rfl (Gk rfl (Gf b 9 rfl rfl (Gl hbk6 (V:=.slice (some ⟨bc,oc,none⟩) H.ca.length H.cc) (by simp[bM,hac]) rfl rfl rfl rfl (Gk rfl (Gb (.int .i64 (k1:Int)) (by simp[go_sem,hk1]) rfl rfl rfl rfl rfl (Gr (.pointer (some ⟨bc,oc+k1*3,none⟩)) (fun ρ y W hb hKn=>(aR rfl (az rfl hKn) (az rfl hKn) hk1l Try.underlying37 cached_size)) rfl rfl (Gf bc (oc+k1*3) rfl rfl (Gc (.int .i64 q.f) (fun W hb=>by simp[hq0 _ hb]) rfl rfl rfl rfl (Gf gc 0 rfl rfl (Gl cx6 rfl rfl rfl rfl rfl (Gb (.bool true) (by simp[go_sem,e3]) rfl rfl rfl rfl rfl (Gk rfl (Gk rfl (Gk rfl (Gf b 9 rfl rfl (Gl hbk6 (V:=.slice (some ⟨bc,oc,none⟩) H.ca.length H.cc) (by simp[bM,hac]) rfl rfl rfl rfl (Gk rfl (Gb (.int .i64 (k1:Int)) (by simp[go_sem,hk1]) rfl rfl rfl rfl rfl (Gr (.pointer (some ⟨bc,oc+k1*3,none⟩)) (fun ρ y W hb hKn=>(aR rfl (az rfl hKn) (az rfl hKn) hk1l Try.underlying37 cached_size)) rfl rfl (Gf bc (oc+k1*3+1) rfl rfl (Gc (.int .i64 q.i) (fun W hb=>by simp[hq1 _ hb]) rfl rfl rfl rfl (Gf gc 1 rfl rfl (Gl cx6 rfl rfl rfl rfl rfl (Gb (.bool false) (by simp[go_sem,e4]) rfl rfl rfl rfl rfl (Gk rfl (Gk rfl (Gk rfl (all_nil))))))))))))))))))))))))))))))))))))))))))))) (fun _=>rfl) rfl ?_
     intro y W7 hbW7 _
     have hbr7:=ae hbr6 hbW7
     clear hbW7
     have hall:=Lib.hid (hnx.out hL0.out)
     clear hq0 hq1 hk1 hk1l cx6 hbk6
     go_wp2
     go_roundw
     case rel=>exact⟨k+1,by omega,by go_num,hbr7,hall⟩
     case measure=>simp[intOf];omega
   ·have hL0:Hid (Lk=0):=Lib.hid (by rw[hE7.out,hpq.out];simp only;rw[if_neg (by omega)])
    refine aC 44 [_,_,_,_,_,_,_,_,_,_,_,_,_,_,_,_,_,_,_,_,_,_,_,_,_,_,_,_,_,_,_,_,_,_,_,_,_,_,_,_,_,_,_,.v (.bool false)] (Gk rfl (Gb (.bool true) (by simp[go_sem,e1i]) rfl rfl rfl rfl rfl (Gk rfl (Gk rfl (Gk rfl (Gf b 9 rfl rfl (Gl hbk6 (V:=.slice (some ⟨bc,oc,none⟩) H.ca.length H.cc) (by simp[bM,hac]) rfl rfl rfl rfl (Gk rfl (Gb (.int .i64 (k1:Int)) (by simp[go_sem,hk1]) rfl rfl rfl rfl rfl (Gr (.pointer (some ⟨bc,oc+k1*3,none⟩)) (fun ρ y W hb hKn=>(aR rfl (az rfl hKn) (az rfl hKn) hk1l Try.underlying37 cached_size)) rfl rfl (Gf bc (oc+k1*3) rfl rfl (Gc (.int .i64 q.f) (fun W hb=>by simp[hq0 _ hb]) rfl rfl rfl rfl (Gf gc 0 rfl rfl (Gl cx6 rfl rfl rfl rfl rfl (Gb (.bool false) (by simp[go_sem,e2]) rfl rfl rfl rfl rfl (Gk rfl (Gk rfl (Gk rfl (Gf b 9 rfl rfl (Gl hbk6 (V:=.slice (some ⟨bc,oc,none⟩) H.ca.length H.cc) (by simp[bM,hac]) rfl rfl rfl rfl (Gk rfl (Gb (.int .i64 (k1:Int)) (by simp[go_sem,hk1]) rfl rfl rfl rfl rfl (Gr (.pointer (some ⟨bc,oc+k1*3,none⟩)) (fun ρ y W hb hKn=>(aR rfl (az rfl hKn) (az rfl hKn) hk1l Try.underlying37 cached_size)) rfl rfl (Gf bc (oc+k1*3) rfl rfl (Gc (.int .i64 q.f) (fun W hb=>by simp[hq0 _ hb]) rfl rfl rfl rfl (Gf gc 0 rfl rfl (Gl cx6 rfl rfl rfl rfl rfl (Gb (.bool false) (by simp[go_sem,e3]) rfl rfl rfl rfl rfl (Gk rfl (Gk rfl (Gk rfl (Gk rfl (Gk rfl (Gk rfl (Gk rfl (Gk rfl (Gk rfl (Gk rfl (Gk rfl (Gk rfl (Gk rfl (Gk rfl (Gk rfl (Gk rfl (all_nil))))))))))))))))))))))))))))))))))))))))))))) (fun _=>rfl) rfl ?_
    intro y W7 hbW7 _
    have hbr7:=ae hbr6 hbW7
    clear hbW7
    have hall:=Lib.hid (hnx.out hL0.out)
    clear hq0 hq1 hk1 hk1l cx6 hbk6
    go_wp2
    go_roundw
    case rel=>exact⟨k+1,by omega,by go_num,hbr7,hall⟩
    case measure=>simp[intOf];omega
  ·have hki:¬(k:Int)<(H.ca.length:Int):=by omega
   have hq:Hid (cachedE H.ma=0):=Lib.hid (by rw[hLE.out,mg fun i hi=>hz.out i hi (by rw[hLl.out] at hi;omega)])
   clear hz
   go_wp2
   go_ret
   rw[hq.out]
   exact⟨rfl,hbr⟩
theorem EK {m:Ma} {s:Sp} {n:Int} (h:eY s.ar n<0):aZ m s n=5:=by unfold aZ;exact if_pos h
theorem CR (H:MH) (P:PS) (n:Int) (b bs os:Nat) (w:World) (hbk:aB w b (bM H) 40) (h:qV w H) (hrd:bZ w (some ⟨bs,os,none⟩) (kS P)) (hg:P.good w) (har:(aT P.ar).1=0) (htb:bB P.tb=0) (hn:0≤n∧n<64) :
  Calls Try.prog 38 #[.pointer (some ⟨b,0,none⟩),.pointer (some ⟨bs,os,none⟩),.int .i64 n] w fun r w'=>r = .returned (.int .i64 (aZ H.ma P.sp n))∧Below w.heap.size w w':=by
 have hs1:∀W,Below w.heap.size w W→W.cell? ⟨bs,os+1,none⟩=some (.slice P.aa P.ar.length P.ac):=fun W hb=>by
  obtain⟨b',o',e,hc⟩:=(hrd.below hb) 1 _ rfl
  cases e
  exact hc
 go_enter Try.func38,Try.ntmps38
 have hc1:=hs1 w (Below.refl _ _)
 have hA:=hg.ars
 go_wp2_with fail
 refine (yz P.ar n P.aa P.ac _ hA.rd (by have:=hA.le;have:=hA.mx;unfold maxLen at this;omega)).mono ?_
 rintro r w1 ⟨rfl,hb1⟩
 have hbk1:=hbk.ext hb1
 have h1:=h.below hb1
 have hg1:=hg.below hb1
 have hrd1:=hrd.below hb1
 clear hc1 hA
 by_cases hf:eY P.ar n<0
 ·have hq:Hid (aZ H.ma P.sp n=5):=Lib.hid (EK hf)
  clear hbk1
  go_wp2
  go_ret
  rw[hq.out]
  exact⟨rfl,hb1⟩
 have hE:Hid (aZ H.ma P.sp n=(let a:=P.ar.getD (eY P.ar n).toNat zAr
  let e:=bT P.tb n
  if e.k=2 then (if (H.sl.length:Int)≤e.n∨a.sh=true then 7 else 0)
  else if (H.m.fs.length:Int)≤e.n then 3 else
  let f:=jI H.ma e.n
  let of:=decide (0≤a.fi)&&decide (f.f=a.fi)&&decide (f.i=a.ba+n-a.fr)
  if 0≤f.f∧of=false∨a.sh=true∧of=false∨a.sh=false∧of=true∧e.w=true∨e.w=true∧a.wr=false then 7
  else if f.f<0∧e.w=true∧1<f.r then 7 else 0)):=Lib.hid (by unfold aZ;exact if_neg hf)
 obtain⟨k,hk,hkl,_⟩:=zI (q:=jH n) (l:=P.ar) (by show 0≤eY P.ar n;omega)
 have hk' : eY P.ar n=k:=hk
 rw[hk',Int.toNat_natCast,List.getD_eq_getElem?_getD,List.getElem?_eq_getElem hkl] at hE
 simp only[Option.getD_some] at hE
 have hkn:¬(k:Int)<0:=by omega
 rw[hk']
 obtain⟨ba,oa,haa,hard⟩:=fE kU (by decide) hg1.ars.rd k hkl
 have haE:=(pz har).2 _ (List.getElem_mem hkl)
 have hafew:=(aU haE).1
 have hent:=(bv _).1 (kD htb n)
 generalize P.ar[k]=a at *
 generalize hge:bT P.tb n=e at *
 have hge':=Lib.hid hge
 clear hk hk' hf haE hge
 go_upto_region 4 with (fail)
 refine kZ 15 [_,_,_,_,_,_,_,_,_,_,_,.v (.agg (fA e)),.r 12 ((mE w1.heap.size 67 3)),.v (.pointer (some ⟨ba,oa+k*7,none⟩)),.y 14 ((Mm 12 w1.heap.size 67 (nN (.agg (fA e)))))] (fun W=>Below w1.heap.size w1 W) gu (Below.refl _ _) (Yk gu rfl (Yk gu rfl (Yf gu bs (os+1) rfl rfl (Yc gu (.slice (some ⟨ba,oa,none⟩) P.ar.length P.ac) (fun W hb=>by simp[hs1 _ (ae hb1 hb),haa]) rfl rfl rfl rfl (Yk gu rfl (Yr gu (.pointer (some ⟨ba,oa+k*7,none⟩)) (fun ρ y W hb hKn=>(aR rfl (az rfl hKn) (az rfl hKn) hkl Try.underlying60 area_size)) rfl rfl (Yk gu rfl (Yk gu rfl (Yf gu bs (os+2) rfl rfl (Yr gu (.agg (iG P.ts)) (fun ρ y W hb hKn=>(bN rfl (az rfl hKn) (mP (hrd1.below hb) 2 8) Try.underlying63 tab_agg tab_size)) rfl rfl (Yk gu rfl (all_cons ?_ (all_cons ?_ (Yk gu rfl (all_cons ?_ (all_nil)))))))))))))))) (fun _=>rfl) rfl ?_
 ·intro ρ y W hw hn hb hd
  refine lS gu hb (nN (.agg (fA e))) (fun _ _ h=>h) ?_
  have E30:=hw 30 9 rfl
  have h9:y 9 = .agg (iG P.ts):=hd 9 rfl
  have E31:=hw 31 10 rfl
  have h10:y 10 = .int .i64 n:=hd 10 rfl
  have EF:∀f,ρ (.func f) = .func (.func f) #[] #[]:=fun f=>hn (.func f) trivial
  refine aG _ _ (ag rfl) (aK rfl (EF _) Try.func39 (by kernel_rfl) (by kernel_rfl) (by simp only[List.map_toArray,List.map_cons,List.map_nil,E30,h9,E31,h10,EF];rfl)) ?_
  refine (xm P.tb (iG P.ts) n W (hg1.below hb).tb).mono ?_
  rintro r w2 ⟨rfl,hb2⟩
  rw[hge'.out]
  exact⟨_,rfl,hb2,rfl⟩
 ·intro ρ y W hw hn hb hd
  refine lS gu hb ((mE w1.heap.size 67 3)) (fun _ _ h=>h) ?_
  refine jb (.pointer (some ⟨W.heap.size,0,none⟩)) (ag rfl) (by simp[execOp,go_sem,bR]) ((Below.refl _ _).alloc (Nat.le_refl _) (.cells #[.int .i64 0,.int .i64 0,.bool false] 67)) ?_
  exact⟨_,_,rfl,hb.size,aB.new _ _ _,rfl⟩
 ·intro ρ y W hw hn hb hd;have E9:=hw 9 12 rfl;have h12:=hd 12 rfl;have E32:=hw 32 11 rfl;have h11:y 11 = .agg (fA e):=hd 11 rfl
  obtain⟨g3,cur3,e9,hg9,hb9,hs9⟩:=h12
  refine vW (ag rfl) _ _ _ rfl g3 0 (.agg (fA e)) (fA e).toList (E9.trans e9) (E32.trans h11) rfl cur3 _ hb9 (by rw[hs9];exact Nat.le_refl _) entry_size (aY (by simp[fA,Value.oneCell'])) ?_
  intro w1 hw1 hgr
  rw[gN cur3 _ (by rw[hs9];rfl)] at hw1
  refine⟨hb.grown hgr hb.size (fun k hk=>by cases hk;exact hg9),⟨g3,_,e9,hg9,hw1,rfl⟩,?_⟩
  intro k hk hne
  match k,hk,hne with
  | 0,_,_=>exact fun h=>h
  | 1,_,_=>exact fun h=>h
  | 2,_,_=>exact fun h=>h
  | 3,_,_=>exact fun h=>h
  | 4,_,_=>exact fun h=>h
  | 5,_,_=>exact fun h=>h
  | 6,_,_=>exact fun h=>h
  | 7,_,_=>exact fun h=>h
  | 8,_,_=>exact fun h=>h
  | 9,_,_=>exact fun h=>h
  | 10,_,_=>exact fun h=>h
  | 11,_,_=>exact fun h=>h
  | 12,_,_=>exact fun q=>ut q hw1 (fun _=>rfl) ⟨_,hb9⟩ hgr
  | 13,_,_=>exact fun h=>h
  | 14,_,h=>exact absurd rfl h
  | n+15,h,_=>exact absurd h (by omega)
 intro y w4 hbw4 hRw4
 replace hbw4:Below w1.heap.size w1 w4:=hbw4
 have hy12:((mE w1.heap.size 67 3)).r (y 12) w4:=hRw4 12 (by decide)
 have hy14:=hRw4 14 (by decide)
 clear hRw4
 simp only[strip,bR,List.map_cons,List.map_nil]
 obtain⟨ge,cce,hgee,hges,hb4,hcce⟩:=hy14
 have hcce' : cce=fA e:=by simpa[nN] using hcce
 subst hcce'
 rw[hgee]
 have hbel4:=hbw4
 have hbr4:=ae hb1 hbel4
 have ex:=hb4
 have hbk4:=hbk.ext hbr4
 have h4:=h.below hbr4
 have hard4:=hard.below hbel4
 clear hbw4 hbel4 hgee hb4 hard hrd1 hbk1 h1 hb1 hs1 hg1 hy12
 have hAc:∀j u,(gW a)[j]?=some u→∀W,Below w4.heap.size w4 W→W.cell? ⟨ba,oa+k*7+j,none⟩=some u:=fun j u hj W hb=>by
  obtain⟨b',o',e',hc⟩:=(hard4.below hb) j u hj
  cases e'
  exact hc
 have hA3:=hAc 3 _ rfl
 have hA4:=hAc 4 _ rfl
 have hA5:=hAc 5 _ rfl
 have hA6:=hAc 6 _ rfl
 have hA0:∀W,Below w4.heap.size w4 W→W.cell? ⟨ba,oa+k*7,none⟩=some (.int .i64 a.fr):=hAc 0 _ rfl
 have hce:=ex.cell
 unfold fA at hce
 clear hAc hard4
 by_cases hk2:e.k=2
 ·rw[if_pos hk2] at hE
  rw[hk2] at hce
  go_upto_region 6 with (fail)
  clear hce hk2
  by_cases c1:(H.sl.length:Int)≤e.n
  ·have hq:Hid (aZ H.ma P.sp n=7):=Lib.hid (by rw[hE.out,if_pos (.inl c1)])
   refine aC 14 [_,_,_,_,_,_,_,_,_,_,_,_,_,.v (.bool true)] (Gf ge 1 rfl rfl (Gl ex rfl rfl rfl rfl rfl (Gk rfl (Gk rfl (Gf b 2 rfl rfl (Gl hbk4 rfl rfl rfl rfl rfl (Gn rfl rfl rfl rfl (Gb (.bool true) (by simp[go_sem,c1]) rfl rfl rfl rfl rfl (Gk rfl (Gk rfl (Gk rfl (Gk rfl (Gk rfl (Gk rfl (all_nil))))))))))))))) (fun _=>rfl) rfl ?_
   intro y W5 hbW5 _
   have hbr5:=ae hbr4 hbW5
   clear hbW5
   go_wp2
   go_ret
   rw[hq.out]
   exact⟨rfl,hbr5⟩
  ·cases c2:a.sh with
   | true=>
    have hq:Hid (aZ H.ma P.sp n=7):=Lib.hid (by rw[hE.out,if_pos (.inr c2)])
    refine aC 14 [_,_,_,_,_,_,_,_,_,_,_,_,_,.v (.bool true)] (Gf ge 1 rfl rfl (Gl ex rfl rfl rfl rfl rfl (Gk rfl (Gk rfl (Gf b 2 rfl rfl (Gl hbk4 rfl rfl rfl rfl rfl (Gn rfl rfl rfl rfl (Gb (.bool false) (by simp[go_sem,c1]) rfl rfl rfl rfl rfl (Gk rfl (Gk rfl (Gk rfl (Gf ba (oa+k*7+4) rfl rfl (Gc (.bool true) (fun W hb=>by simp[hA4 _ hb,c2]) rfl rfl rfl rfl (Gk rfl (all_nil))))))))))))))) (fun _=>rfl) rfl ?_
    intro y W5 hbW5 _
    have hbr5:=ae hbr4 hbW5
    clear hbW5
    go_wp2
    go_ret
    rw[hq.out]
    exact⟨rfl,hbr5⟩
   | false=>
    have hq:Hid (aZ H.ma P.sp n=0):=Lib.hid (by rw[hE.out,if_neg (by rw[c2];simp;omega)])
    refine aC 14 [_,_,_,_,_,_,_,_,_,_,_,_,_,.v (.bool false)] (Gf ge 1 rfl rfl (Gl ex rfl rfl rfl rfl rfl (Gk rfl (Gk rfl (Gf b 2 rfl rfl (Gl hbk4 rfl rfl rfl rfl rfl (Gn rfl rfl rfl rfl (Gb (.bool false) (by simp[go_sem,c1]) rfl rfl rfl rfl rfl (Gk rfl (Gk rfl (Gk rfl (Gf ba (oa+k*7+4) rfl rfl (Gc (.bool false) (fun W hb=>by simp[hA4 _ hb,c2]) rfl rfl rfl rfl (Gk rfl (all_nil))))))))))))))) (fun _=>rfl) rfl ?_
    intro y W5 hbW5 _
    have hbr5:=ae hbr4 hbW5
    clear hbW5
    go_wp2
    go_ret
    rw[hq.out]
    exact⟨rfl,hbr5⟩
 rw[if_neg hk2] at hE
 obtain⟨K,hK⟩:∃K:Nat,e.n=K:=⟨e.n.toNat,by omega⟩
 rw[hK] at hE
 go_upto_region 9 with (fail)
 clear hce
 by_cases c3:(H.m.fs.length:Int)≤(K:Int)
 ·have hq:Hid (aZ H.ma P.sp n=3):=Lib.hid (by rw[hE.out,if_pos c3])
  have c3e:(H.m.fs.length:Int)≤e.n:=by omega
  refine aC 9 [_,_,_,_,_,_,_,_,_] (Gf ge 1 rfl rfl (Gl ex rfl rfl rfl rfl rfl (Gk rfl (Gk rfl (Gf b 0 rfl rfl (Gf b 0 rfl rfl (Gl hbk4 rfl rfl rfl rfl rfl (Gn rfl rfl rfl rfl (Gb (.bool true) (by simp[go_sem,c3e]) rfl rfl rfl rfl rfl (all_nil)))))))))) (fun _=>rfl) rfl ?_
  intro y W5 hbW5 _
  have hbr5:=ae hbr4 hbW5
  clear hbW5 hA0 hA3 hA4 hA5 hA6 c3 c3e
  go_wp2
  go_ret
  rw[hq.out]
  exact⟨rfl,hbr5⟩
 rw[if_neg c3] at hE
 have c3e:¬(H.m.fs.length:Int)≤e.n:=by omega
 refine aC 9 [_,_,_,_,_,_,_,_,_] (Gf ge 1 rfl rfl (Gl ex rfl rfl rfl rfl rfl (Gk rfl (Gk rfl (Gf b 0 rfl rfl (Gf b 0 rfl rfl (Gl hbk4 rfl rfl rfl rfl rfl (Gn rfl rfl rfl rfl (Gb (.bool false) (by simp[go_sem,c3e]) rfl rfl rfl rfl rfl (all_nil)))))))))) (fun _=>rfl) rfl ?_
 intro y W5 hbW5 _
 have hbr5:=ae hbr4 hbW5
 have hKl:K<H.m.fs.length:=by omega
 replace ex:=ex.ext hbW5
 have hbk5:=hbk.ext hbr5
 have h5:=h.below hbr5
 have sh:∀ {u:Value} {z:Addr},(∀W,Below w4.heap.size w4 W→W.cell? z=some u)→∀W,Below W5.heap.size W5 W→W.cell? z=some u:=fun hh W hb=>hh W (ae hbW5 hb)
 replace hA0:=sh hA0
 replace hA3:=sh hA3
 replace hA4:=sh hA4
 replace hA5:=sh hA5
 replace hA6:=sh hA6
 obtain⟨bg,og,haf,hfrd⟩:=fE eu (by decide) h5.fr.rd K hKl
 have hxf:H.m.fs[K]=bn H.ma K:=by
  have:=zB (m:=H.ma) (f:=K) hKl
  have h2:H.m.fs[K]?=some (bn H.ma K):=this
  rw[List.getElem?_eq_getElem hKl] at h2
  exact Option.some.inj h2
 rw[hxf] at hfrd
 have hE2:Hid (aZ H.ma P.sp n=(let of:=decide (0≤a.fi)&&decide ((bn H.ma K).f=a.fi)&&decide ((bn H.ma K).i=a.ba+n-a.fr)
  if 0≤(bn H.ma K).f∧of=false∨a.sh=true∧of=false∨a.sh=false∧of=true∧e.w=true∨e.w=true∧a.wr=false then 7
  else if (bn H.ma K).f<0∧e.w=true∧1<(bn H.ma K).r then 7 else 0)):=Lib.hid (by rw[hE.out];rfl)
 generalize bn H.ma K=x at *
 clear hE hxf hbW5 hbk4 h4 hbr4 c3 sh
 go_upto_region 11 with (fail)
 refine aC 9 [_,_,_,_,_,_,_,_,.v (.pointer (some ⟨bg,og+K*13,none⟩))] (Gk rfl (Gk rfl (Gf b 0 rfl rfl (Gf b 0 rfl rfl (Gl hbk5 (V:=.slice (some ⟨bg,og,none⟩) H.m.fs.length H.cf) (by simp[bM,haf]) rfl rfl rfl rfl (Gf ge 1 rfl rfl (Gl ex (V:=.int .i64 (K:Int)) (by simp[fA,hK]) rfl rfl rfl rfl (Gr (.pointer (some ⟨bg,og+K*13,none⟩)) (fun ρ y W hb hKn=>(aR rfl (az rfl hKn) (az rfl hKn) hKl Try.underlying25 frame_size)) rfl rfl (Gk rfl (all_nil)))))))))) (fun _=>rfl) rfl ?_
 intro y W7 hbW7 _
 have hbr7:=ae hbr5 hbW7
 have ex7:=ex.ext hbW7
 have hbk7:=hbk.ext hbr7
 have sh:∀ {u:Value} {z:Addr},(∀W,Below W5.heap.size W5 W→W.cell? z=some u)→∀W,Below W7.heap.size W7 W→W.cell? z=some u:=fun hh W hb=>hh W (ae hbW7 hb)
 replace hA0:=sh hA0
 replace hA3:=sh hA3
 replace hA4:=sh hA4
 replace hA5:=sh hA5
 replace hA6:=sh hA6
 have hfrd7:=hfrd.below hbW7
 clear ex hbk5 hbW7 sh hfrd hbr5 h5
 have hw1:IntKind.i64.wrap (a.ba+n)=a.ba+n:=IntWalk.i64_in _ (by obtain⟨⟨z1,z2⟩,⟨z3,z4⟩,z5,z6⟩:=hafew;omega)
 have hw2:IntKind.i64.wrap (a.ba+n-a.fr)=a.ba+n-a.fr:=IntWalk.i64_in _ (by obtain⟨⟨z1,z2⟩,⟨z3,z4⟩,z5,z6⟩:=hafew;omega)
 go_upto_region 12 with (fail)
 refine aC 12 [_,_,_,_,_,_,_,_,_,_,_,.v (.int .i64 (a.ba+n-a.fr))] (Gk rfl (Gk rfl (Gf ba (oa+k*7+6) rfl rfl (Gc (.int .i64 a.ba) (fun W hb=>by simp[hA6 _ hb]) rfl rfl rfl rfl (Gk rfl (Gb (.int .i64 (a.ba+n)) (by simp[go_sem,hw1]) rfl rfl rfl rfl rfl (Gk rfl (Gk rfl (Gf ba (oa+k*7) rfl rfl (Gc (.int .i64 a.fr) (fun W hb=>by simp[hA0 _ hb]) rfl rfl rfl rfl (Gb (.int .i64 (a.ba+n-a.fr)) (by simp[go_sem,hw2]) rfl rfl rfl rfl rfl (Gk rfl (all_nil))))))))))))) (fun _=>rfl) rfl ?_
 intro y W5 hbW5 _
 have hbr5:=ae hbr7 hbW5
 have ex:=ex7.ext hbW5
 have hbk5:=hbk.ext hbr5
 have sh:∀ {u:Value} {z:Addr},(∀W,Below W7.heap.size W7 W→W.cell? z=some u)→∀W,Below W5.heap.size W5 W→W.cell? z=some u:=fun hh W hb=>hh W (ae hbW5 hb)
 replace hA3:=sh hA3
 replace hA4:=sh hA4
 replace hA5:=sh hA5
 have hfrd:=hfrd7.below hbW5
 clear ex7 hbk7 hbW5 sh hfrd7 hbr7 hw1 hw2 hA0 hA6
 have hXc:∀j u,(ng x)[j]?=some u→∀W,Below W5.heap.size W5 W→W.cell? ⟨bg,og+K*13+j,none⟩=some u:=fun j u hj W hb=>by
  obtain⟨b',o',e',hc⟩:=(hfrd.below hb) j u hj
  cases e'
  exact hc
 have hX8:=hXc 8 _ rfl
 have hX11:=hXc 11 _ rfl
 have hX12:=hXc 12 _ rfl
 clear hXc hfrd
 go_upto_region 13 with (fail)
 by_cases g1:0≤a.fi
 ·by_cases g2:x.f=a.fi
  ·by_cases g3:x.i=a.ba+n-a.fr
   ·skip
    refine aC 25 [_,_,_,_,_,_,_,_,_,_,_,_,_,_,_,_,_,_,_,_,_,_,_,_,.v (.bool true)] (Gk rfl (Gk rfl (Gf ba (oa+k*7+5) rfl rfl (Gc (.int .i64 a.fi) (fun W hb=>by simp[hA5 _ hb]) rfl rfl rfl rfl (Gb (.bool true) (by simp[go_sem,g1]) rfl rfl rfl rfl rfl (Gk rfl (Gk rfl (Gk rfl (Gf bg (og+K*13+11) rfl rfl (Gc (.int .i64 x.f) (fun W hb=>by simp[hX11 _ hb]) rfl rfl rfl rfl (Gk rfl (Gk rfl (Gf ba (oa+k*7+5) rfl rfl (Gc (.int .i64 a.fi) (fun W hb=>by simp[hA5 _ hb]) rfl rfl rfl rfl (Gb (.bool true) (by simp[go_sem,g2]) rfl rfl rfl rfl rfl (Gk rfl (Gk rfl (Gk rfl (Gk rfl (Gf bg (og+K*13+12) rfl rfl (Gc (.int .i64 x.i) (fun W hb=>by simp[hX12 _ hb]) rfl rfl rfl rfl (Gk rfl (Gb (.bool true) (by simp[go_sem,g3]) rfl rfl rfl rfl rfl (Gk rfl (Gk rfl (all_nil)))))))))))))))))))))))))) (fun _=>rfl) rfl ?_
    intro y W6 hbW6 _
    have hbr6:=ae hbr5 hbW6
    have x8:=hX8 _ hbW6
    have x11:=hX11 _ hbW6
    have a3:=hA3 _ hbW6
    have a4:=hA4 _ hbW6
    have hce:=(ex.ext hbW6).cell
    unfold fA at hce
    clear hbW6 hA3 hA4 hA5 hX8 hX11 hX12 ex hbk5
    have f1:0≤x.f:=by omega
    have f1n:¬x.f<0:=by omega
    replace hE2:Hid (aZ H.ma P.sp n=if a.sh=false∧e.w=true∨e.w=true∧a.wr=false then 7 else 0):=Lib.hid (by
     rw[hE2.out,decide_eq_true g1,decide_eq_true g2,decide_eq_true g3]
     simp[f1n])
    clear g2 g3
    cases f2:a.sh with
    | true=>
     rw[f2] at a4
     cases f3:e.w with
     | false=>
      rw[f3] at hce
      have hq:Hid (aZ H.ma P.sp n=0):=Lib.hid (by rw[hE2.out];simp[*];try omega)
      clear hE2
      go_wp2
      go_ret
      rw[hq.out]
      exact⟨rfl,hbr6⟩
     | true=>
      rw[f3] at hce
      cases f4:a.wr with
      | false=>
       rw[f4] at a3
       have hq:Hid (aZ H.ma P.sp n=7):=Lib.hid (by rw[hE2.out];simp[*];try omega)
       clear hE2
       go_wp2
       go_ret
       rw[hq.out]
       exact⟨rfl,hbr6⟩
      | true=>
       rw[f4] at a3
       have hq:Hid (aZ H.ma P.sp n=0):=Lib.hid (by rw[hE2.out];simp[*];try omega)
       clear hE2
       go_wp2
       go_ret
       rw[hq.out]
       exact⟨rfl,hbr6⟩
    | false=>
     rw[f2] at a4
     cases f3:e.w with
     | true=>
      rw[f3] at hce
      have hq:Hid (aZ H.ma P.sp n=7):=Lib.hid (by rw[hE2.out];simp[*];try omega)
      clear hE2
      go_wp2
      go_ret
      rw[hq.out]
      exact⟨rfl,hbr6⟩
     | false=>
      rw[f3] at hce
      have hq:Hid (aZ H.ma P.sp n=0):=Lib.hid (by rw[hE2.out];simp[*];try omega)
      clear hE2
      go_wp2
      go_ret
      rw[hq.out]
      exact⟨rfl,hbr6⟩
   ·skip
    refine aC 25 [_,_,_,_,_,_,_,_,_,_,_,_,_,_,_,_,_,_,_,_,_,_,_,_,.v (.bool false)] (Gk rfl (Gk rfl (Gf ba (oa+k*7+5) rfl rfl (Gc (.int .i64 a.fi) (fun W hb=>by simp[hA5 _ hb]) rfl rfl rfl rfl (Gb (.bool true) (by simp[go_sem,g1]) rfl rfl rfl rfl rfl (Gk rfl (Gk rfl (Gk rfl (Gf bg (og+K*13+11) rfl rfl (Gc (.int .i64 x.f) (fun W hb=>by simp[hX11 _ hb]) rfl rfl rfl rfl (Gk rfl (Gk rfl (Gf ba (oa+k*7+5) rfl rfl (Gc (.int .i64 a.fi) (fun W hb=>by simp[hA5 _ hb]) rfl rfl rfl rfl (Gb (.bool true) (by simp[go_sem,g2]) rfl rfl rfl rfl rfl (Gk rfl (Gk rfl (Gk rfl (Gk rfl (Gf bg (og+K*13+12) rfl rfl (Gc (.int .i64 x.i) (fun W hb=>by simp[hX12 _ hb]) rfl rfl rfl rfl (Gk rfl (Gb (.bool false) (by simp[go_sem,g3]) rfl rfl rfl rfl rfl (Gk rfl (Gk rfl (all_nil)))))))))))))))))))))))))) (fun _=>rfl) rfl ?_
    intro y W6 hbW6 _
    have hbr6:=ae hbr5 hbW6
    have x8:=hX8 _ hbW6
    have x11:=hX11 _ hbW6
    have a3:=hA3 _ hbW6
    have a4:=hA4 _ hbW6
    have hce:=(ex.ext hbW6).cell
    unfold fA at hce
    clear hbW6 hA3 hA4 hA5 hX8 hX11 hX12 ex hbk5
    have hof:(decide (0≤a.fi)&&decide (x.f=a.fi)&&decide (x.i=a.ba+n-a.fr))=false:=by simp[*]
    replace hE2:Hid (aZ H.ma P.sp n=if 0≤x.f∨a.sh=true∨e.w=true∧a.wr=false then 7 else if x.f<0∧e.w=true∧1<x.r then 7 else 0):=Lib.hid (by
     rw[hE2.out,hof]
     simp)
    clear hof g2 g3
    by_cases f1:0≤x.f
    ·skip
     have hq:Hid (aZ H.ma P.sp n=7):=Lib.hid (by rw[hE2.out];simp[*];try omega)
     clear hE2
     go_wp2
     go_ret
     rw[hq.out]
     exact⟨rfl,hbr6⟩
    have f1n:x.f<0:=by omega
    cases f2:a.sh with
    | true=>
     rw[f2] at a4
     have hq:Hid (aZ H.ma P.sp n=7):=Lib.hid (by rw[hE2.out];simp[*];try omega)
     clear hE2
     go_wp2
     go_ret
     rw[hq.out]
     exact⟨rfl,hbr6⟩
    | false=>
     rw[f2] at a4
     cases f3:e.w with
     | false=>
      rw[f3] at hce
      have hq:Hid (aZ H.ma P.sp n=0):=Lib.hid (by rw[hE2.out];simp[*];try omega)
      clear hE2
      go_wp2
      go_ret
      rw[hq.out]
      exact⟨rfl,hbr6⟩
     | true=>
      rw[f3] at hce
      cases f4:a.wr with
      | false=>
       rw[f4] at a3
       have hq:Hid (aZ H.ma P.sp n=7):=Lib.hid (by rw[hE2.out];simp[*];try omega)
       clear hE2
       go_wp2
       go_ret
       rw[hq.out]
       exact⟨rfl,hbr6⟩
      | true=>
       rw[f4] at a3
       by_cases f5:1<x.r
       ·skip
        have hq:Hid (aZ H.ma P.sp n=7):=Lib.hid (by rw[hE2.out];simp[*];try omega)
        clear hE2
        go_wp2
        go_ret
        rw[hq.out]
        exact⟨rfl,hbr6⟩
       ·skip
        have hq:Hid (aZ H.ma P.sp n=0):=Lib.hid (by rw[hE2.out];simp[*];try omega)
        clear hE2
        go_wp2
        go_ret
        rw[hq.out]
        exact⟨rfl,hbr6⟩
  ·skip
   refine aC 25 [_,_,_,_,_,_,_,_,_,_,_,_,_,_,_,_,_,_,_,_,_,_,_,_,.v (.bool false)] (Gk rfl (Gk rfl (Gf ba (oa+k*7+5) rfl rfl (Gc (.int .i64 a.fi) (fun W hb=>by simp[hA5 _ hb]) rfl rfl rfl rfl (Gb (.bool true) (by simp[go_sem,g1]) rfl rfl rfl rfl rfl (Gk rfl (Gk rfl (Gk rfl (Gf bg (og+K*13+11) rfl rfl (Gc (.int .i64 x.f) (fun W hb=>by simp[hX11 _ hb]) rfl rfl rfl rfl (Gk rfl (Gk rfl (Gf ba (oa+k*7+5) rfl rfl (Gc (.int .i64 a.fi) (fun W hb=>by simp[hA5 _ hb]) rfl rfl rfl rfl (Gb (.bool false) (by simp[go_sem,g2]) rfl rfl rfl rfl rfl (Gk rfl (Gk rfl (Gk rfl (Gk rfl (Gk rfl (Gk rfl (Gk rfl (Gk rfl (Gk rfl (Gk rfl (all_nil)))))))))))))))))))))))))) (fun _=>rfl) rfl ?_
   intro y W6 hbW6 _
   have hbr6:=ae hbr5 hbW6
   have x8:=hX8 _ hbW6
   have x11:=hX11 _ hbW6
   have a3:=hA3 _ hbW6
   have a4:=hA4 _ hbW6
   have hce:=(ex.ext hbW6).cell
   unfold fA at hce
   clear hbW6 hA3 hA4 hA5 hX8 hX11 hX12 ex hbk5
   have hof:(decide (0≤a.fi)&&decide (x.f=a.fi)&&decide (x.i=a.ba+n-a.fr))=false:=by simp[*]
   replace hE2:Hid (aZ H.ma P.sp n=if 0≤x.f∨a.sh=true∨e.w=true∧a.wr=false then 7 else if x.f<0∧e.w=true∧1<x.r then 7 else 0):=Lib.hid (by
    rw[hE2.out,hof]
    simp)
   clear hof g2
   by_cases f1:0≤x.f
   ·skip
    have hq:Hid (aZ H.ma P.sp n=7):=Lib.hid (by rw[hE2.out];simp[*];try omega)
    clear hE2
    go_wp2
    go_ret
    rw[hq.out]
    exact⟨rfl,hbr6⟩
   have f1n:x.f<0:=by omega
   cases f2:a.sh with
   | true=>
    rw[f2] at a4
    have hq:Hid (aZ H.ma P.sp n=7):=Lib.hid (by rw[hE2.out];simp[*];try omega)
    clear hE2
    go_wp2
    go_ret
    rw[hq.out]
    exact⟨rfl,hbr6⟩
   | false=>
    rw[f2] at a4
    cases f3:e.w with
    | false=>
     rw[f3] at hce
     have hq:Hid (aZ H.ma P.sp n=0):=Lib.hid (by rw[hE2.out];simp[*];try omega)
     clear hE2
     go_wp2
     go_ret
     rw[hq.out]
     exact⟨rfl,hbr6⟩
    | true=>
     rw[f3] at hce
     cases f4:a.wr with
     | false=>
      rw[f4] at a3
      have hq:Hid (aZ H.ma P.sp n=7):=Lib.hid (by rw[hE2.out];simp[*];try omega)
      clear hE2
      go_wp2
      go_ret
      rw[hq.out]
      exact⟨rfl,hbr6⟩
     | true=>
      rw[f4] at a3
      by_cases f5:1<x.r
      ·skip
       have hq:Hid (aZ H.ma P.sp n=7):=Lib.hid (by rw[hE2.out];simp[*];try omega)
       clear hE2
       go_wp2
       go_ret
       rw[hq.out]
       exact⟨rfl,hbr6⟩
      ·skip
       have hq:Hid (aZ H.ma P.sp n=0):=Lib.hid (by rw[hE2.out];simp[*];try omega)
       clear hE2
       go_wp2
       go_ret
       rw[hq.out]
       exact⟨rfl,hbr6⟩
 ·skip
  refine aC 25 [_,_,_,_,_,_,_,_,_,_,_,_,_,_,_,_,_,_,_,_,_,_,_,_,.v (.bool false)] (Gk rfl (Gk rfl (Gf ba (oa+k*7+5) rfl rfl (Gc (.int .i64 a.fi) (fun W hb=>by simp[hA5 _ hb]) rfl rfl rfl rfl (Gb (.bool false) (by simp[go_sem,g1]) rfl rfl rfl rfl rfl (Gk rfl (Gk rfl (Gk rfl (Gk rfl (Gk rfl (Gk rfl (Gk rfl (Gk rfl (Gk rfl (Gk rfl (Gk rfl (Gk rfl (Gk rfl (Gk rfl (Gk rfl (Gk rfl (Gk rfl (Gk rfl (Gk rfl (Gk rfl (all_nil)))))))))))))))))))))))))) (fun _=>rfl) rfl ?_
  intro y W6 hbW6 _
  have hbr6:=ae hbr5 hbW6
  have x8:=hX8 _ hbW6
  have x11:=hX11 _ hbW6
  have a3:=hA3 _ hbW6
  have a4:=hA4 _ hbW6
  have hce:=(ex.ext hbW6).cell
  unfold fA at hce
  clear hbW6 hA3 hA4 hA5 hX8 hX11 hX12 ex hbk5
  have hof:(decide (0≤a.fi)&&decide (x.f=a.fi)&&decide (x.i=a.ba+n-a.fr))=false:=by simp[*]
  replace hE2:Hid (aZ H.ma P.sp n=if 0≤x.f∨a.sh=true∨e.w=true∧a.wr=false then 7 else if x.f<0∧e.w=true∧1<x.r then 7 else 0):=Lib.hid (by
   rw[hE2.out,hof]
   simp)
  clear hof g1
  by_cases f1:0≤x.f
  ·skip
   have hq:Hid (aZ H.ma P.sp n=7):=Lib.hid (by rw[hE2.out];simp[*];try omega)
   clear hE2
   go_wp2
   go_ret
   rw[hq.out]
   exact⟨rfl,hbr6⟩
  have f1n:x.f<0:=by omega
  cases f2:a.sh with
  | true=>
   rw[f2] at a4
   have hq:Hid (aZ H.ma P.sp n=7):=Lib.hid (by rw[hE2.out];simp[*];try omega)
   clear hE2
   go_wp2
   go_ret
   rw[hq.out]
   exact⟨rfl,hbr6⟩
  | false=>
   rw[f2] at a4
   cases f3:e.w with
   | false=>
    rw[f3] at hce
    have hq:Hid (aZ H.ma P.sp n=0):=Lib.hid (by rw[hE2.out];simp[*];try omega)
    clear hE2
    go_wp2
    go_ret
    rw[hq.out]
    exact⟨rfl,hbr6⟩
   | true=>
    rw[f3] at hce
    cases f4:a.wr with
    | false=>
     rw[f4] at a3
     have hq:Hid (aZ H.ma P.sp n=7):=Lib.hid (by rw[hE2.out];simp[*];try omega)
     clear hE2
     go_wp2
     go_ret
     rw[hq.out]
     exact⟨rfl,hbr6⟩
    | true=>
     rw[f4] at a3
     by_cases f5:1<x.r
     ·skip
      have hq:Hid (aZ H.ma P.sp n=7):=Lib.hid (by rw[hE2.out];simp[*];try omega)
      clear hE2
      go_wp2
      go_ret
      rw[hq.out]
      exact⟨rfl,hbr6⟩
     ·skip
      have hq:Hid (aZ H.ma P.sp n=0):=Lib.hid (by rw[hE2.out];simp[*];try omega)
      clear hE2
      go_wp2
      go_ret
      rw[hq.out]
      exact⟨rfl,hbr6⟩
def isK (i:Int) (c:Cc):Bool:=decide (c.k=i)
theorem Cj (c:Cc) (i:Int) (g:Nat) (w:World) (hg:aB w g #[.int .i64 i] 3) :
  Calls Try.prog 41 #[.agg (sN c),.pointer (some ⟨g,0,none⟩)] w fun r w'=>r = .returned (.bool (isK i c))∧Below w.heap.size w w':=by
 go_enter Try.func41,Try.ntmps41
 go_upto_region 1 with (fail)
 refine eP (fun W=>Code.wp _ _ _ _ W) fun W0 hb0 hx0 hs0 => ?_
 clear hs0
 have hgx:=(hg.ext hb0).cell 0
 have hcx:=hx0.cell
 have q2:(sN c)[2]?=some (.int .i64 c.k):=rfl
 go_wp2
 go_ret
 exact⟨bK (by unfold isK;rfl),hb0⟩
theorem uW {w:World} {a:Option Addr} {l:List Cc} (h:bZ w a (l.flatMap kJ)) (k:Nat) (hk:k<l.length):∃b off,a=some ⟨b,off,none⟩∧bZ w (some ⟨b,off+k*3,none⟩) (kJ l[k]):=fE ku (by decide) h k hk
theorem Jh (l:List Cc) (a:Option Addr) (c:Nat) (w:World) (hrd:bZ w a (l.flatMap kJ)) (hl:l.length≤9223372036854775807) (g:Nat) (kk:Int) (hg:aB w g #[.int .i64 kk] 3) :
  Calls Try.prog 84 #[.slice a l.length c,.func (.func 41) #[] #[.pointer (some ⟨g,0,none⟩)]] w fun e w'=>e = .returned (.int .i64 (idx (isK kk) l))∧Below w.heap.size w w':=by
 go_enter Try.func84,Try.ntmps84
 go_wp2
 go_loopw [8] (fun i wr => ∃k:Nat,k≤l.length∧i = .int .i64 k∧Below w.heap.size w wr∧∀i (h:i<l.length),i<k→(isK kk) l[i]=false) (fun i _=>l.length-(intOf i).toNat)
 case atStart=>exact⟨0,Nat.zero_le _,rfl,Below.refl _ _,fun i _ h=>absurd h (Nat.not_lt_zero _)⟩
 case round=>
  obtain⟨k,hk,rfl,hbr,hp0⟩:=hrel
  have hp:=Lib.hid hp0
  clear hp0
  by_cases hlt:k<l.length
  ·obtain⟨b,off,rfl,hel⟩:=uW (hrd.below hbr) k hlt
   go_wp2_with (refine ak _ _ rfl b (off+k*3) rfl rfl _ hel _ Try.underlying85 rfl cached_size ?_)
   refine (Cj l[k] kk g _ (hg.ext hbr)).mono ?_
   rintro e w2 ⟨rfl,hb2⟩
   have hbel2:=ae hbr hb2
   clear hb2
   cases hpk:(isK kk) l[k]
   ·have hpk':=Lib.hid hpk
    clear hpk
    go_wp2
    go_roundw
    case rel=>exact⟨k+1,by omega,by go_num,hbel2,jF hp.out hlt hpk'.out⟩
    case measure=>simp[intOf];omega
   ·have hfin:=Lib.hid (tV (isK kk) l k hlt hp.out hpk)
    clear hpk
    go_wp2
    go_ret
    exact⟨aO hfin.out.symm,hbel2⟩
  ·have hfin:=Lib.hid (lI (isK kk) l fun i h=>hp.out i h (by omega))
   go_wp2
   go_ret
   exact⟨aO hfin.out.symm,hbr⟩
theorem JB (l:List Cc) (a:Option Addr) (c:Nat) (w:World) (hrd:bZ w a (l.flatMap kJ)) (hl:l.length≤9223372036854775807) (g:Nat) (kk:Int) (hg:aB w g #[.int .i64 kk] 3) :
  Calls Try.prog 40 #[.slice a l.length c,.func (.func 41) #[] #[.pointer (some ⟨g,0,none⟩)]] w fun e w'=>e = .returned (.bool (l.any (isK kk)))∧Below w.heap.size w w':=by
 go_enter Try.func40,Try.ntmps40
 go_wp2_with fail
 refine (Jh l a c _ hrd hl g kk hg).mono ?_
 rintro e w2 ⟨rfl,hb2⟩
 go_wp2
 go_ret
 exact⟨bK (kT _ _),hb2⟩
theorem BI (l m:List Int) (a a' : Option Addr) (c c' : Nat) (w:World) (hrd:bZ w a (l.map dE)) (hrd' : bZ w a' (m.map dE)) (hl:l.length≤9223372036854775807) (hl' : m.length≤9223372036854775807) :
  Calls Try.prog 42 #[.slice a l.length c,.slice a' m.length c'] w fun e w'=>e = .returned (.bool (l==m))∧Below w.heap.size w w':=by
 go_enter Try.func42,Try.ntmps42
 by_cases hlm:l.length=m.length
 ·have hne:((l.length:Int) != (m.length:Int))=false:=by simp[hlm]
  go_wp2
  go_loopw [13] (fun i wr => ∃k:Nat,k≤l.length∧i = .int .i64 k∧Below w.heap.size w wr∧∀i (h:i<l.length),i<k→l[i]=m[i]'(by omega)) (fun i _=>l.length-(intOf i).toNat)
  case atStart=>exact⟨0,Nat.zero_le _,rfl,Below.refl _ _,fun i _ h=>absurd h (Nat.not_lt_zero _)⟩
  case round=>
   obtain⟨k,hk,rfl,hbel,hp⟩:=hrel
   by_cases hlt:k<l.length
   ·obtain⟨b,off,rfl,hc⟩:=jo (hrd.below hbel) k hlt
    obtain⟨b',off',rfl,hc'⟩:=jo (hrd'.below hbel) k (by omega)
    have k1:(k:Int)<(m.length:Int):=by omega
    go_wp2_with fail
    go_quiet (fail)
    by_cases he:l[k]=m[k]'(by omega)
    ·have hz:(l[k] != m[k]'(by omega))=false:=by simp[he]
     go_wp2
     go_roundw
     case rel=>exact⟨k+1,by omega,by go_num,below_drewN hbel _,upto hp hlt he⟩
     case measure=>simp[intOf];omega
    ·have hz:(l[k] != m[k]'(by omega))=true:=by simp[he]
     go_wp2
     go_ret
     exact⟨bK (Fp k hlt (by omega) he).symm,below_drewN hbel _⟩
   ·go_wp2
    all_goals
     go_ret
     exact⟨bK (Fh hlm fun i h=>hp i h (by omega)).symm,hbel⟩
 ·have hne:((l.length:Int) != (m.length:Int))=true:=by simp;omega
  go_wp2
  go_ret
  refine⟨bK ?_,Below.refl _ _⟩
  symm
  rw[beq_eq_false_iff_ne]
  rintro rfl
  exact hlm rfl
theorem iH (n:Nat) (l:List Int):(gF n l).length=n:=by simp[gF]
theorem jE (n:Nat) (l:List Int) (i:Nat) (hi:i<n):(gF n l)[i]?=some (cnt l i:Int):=by simp[gF,hi]
theorem AQ (l:List Int) (k i:Int):cnt (l++[k]) i=cnt l i+(if k=i then 1 else 0):=by
 rw[rM]
 congr 1
 unfold cnt
 rw[List.countP_cons,List.countP_nil]
 by_cases h:k=i
 ·simp[h]
 ·simp[h]
theorem wT (n:Nat) (l:List Int) (k:Nat) (hk:k<n):(gF n l).set k ((cnt l k:Int)+1)=gF n (l++[(k:Int)]):=by
 apply List.ext_getElem?
 intro i
 rw[List.getElem?_set,iH]
 by_cases e:k=i
 ·subst e
  rw[if_pos rfl,if_pos hk,jE _ _ _ hk,AQ,if_pos rfl]
  simp
 ·rw[if_neg e]
  by_cases hi:i<n
  ·rw[jE _ _ _ hi,jE _ _ _ hi,AQ,if_neg (by omega)];rfl
  ·rw[List.getElem?_eq_none (by rw[iH];omega),List.getElem?_eq_none (by rw[iH];omega)]
theorem Bv (n:Nat):gF n []=List.replicate n 0:=by
 unfold gF cnt
 apply List.ext_getElem?
 intro i
 rw[List.getElem?_map,List.getElem?_replicate]
 by_cases hi:i<n
 ·rw[List.getElem?_range hi,if_pos hi];rfl
 ·rw[if_neg hi,List.getElem?_eq_none (by simp;omega)];rfl
theorem yY (l:List Int) (i:Int):cnt l i≤l.length:=List.countP_le_length
def IB (w:World) (g:Nat) (l:List Int):Prop:=aB w g (l.map dE).toArray 3
theorem yO (n:Nat):madeCells #[.int .i64 0] n=((List.replicate n (0:Int)).map dE).toArray:=by
 apply Array.ext
 ·simp[size_madeCells]
 ·intro i h1 h2
  simp[madeCells,dE,Nat.mod_one]
theorem IB.cell {w:World} {g:Nat} {l:List Int} (h:IB w g l) {k:Nat} {v:Int} (hv:l[k]?=some v):w.cell? ⟨g,k,none⟩=some (.int .i64 v):=by
 have:=aB.cell h k
 rw[this]
 simp[hv,dE]
theorem IB.set {l:List Int} {k:Nat} {v:Int} (hk:k<l.length):putAt (l.map dE).toArray k [.int .i64 v]=((l.set k v).map dE).toArray:=by
 show ((l.map dE).toArray).setIfInBounds k (.int .i64 v)=_
 rw[List.map_set]
 simp[dE]
def aQ (m:Ma) (p:Nat) (n:Int) (x:En):Ma:=setTb m p (setT (bI m p).tb n x)
theorem ou {kd i:Int} {e:En} (h:e.k=0) (hk:kd≠0):qO (jZ kd i e)=0:=by
 unfold qO jZ
 rw[if_neg]
 simp only[Bool.and_eq_true,decide_eq_true_eq]
 intro h'; omega
theorem lF {kd i:Int} {e:En}:qO (jZ kd i e)=if e.k=kd∧e.n=i then 1 else 0:=by
 unfold qO jZ
 by_cases h:e.k=kd∧e.n=i
 ·rw[if_pos h,if_pos (by simp[h.1,h.2])]
 ·rw[if_neg h,if_neg]
  simp only[Bool.and_eq_true,decide_eq_true_eq]
  exact h
theorem vk {m:Ma} (h:Rt m) {q:Nat} {j:Int} {f:Nat} (hk:(ent m q j).k=1) (he:(ent m q j).n.toNat=f):0<bP m 1 f∧f<m.m.fs.length:=by
 have h3:=jC (m:=m) (p:=q) (n:=j) (by rw[hk];decide)
 have h5:=(bv _).1 (kN h.pt q j)
 have h4:=(iL (m:=m) (kd:=1) (i:=f) (by decide)).2 ⟨q,j,h3.1,h3.2,hk,by omega⟩
 obtain⟨g,_,hg⟩:=h.en q j (by rw[hk];decide)
 have:=hg.lt hk
 exact⟨h4,by omega⟩
theorem qC {m:Ma} (h:Rt m) (hc:Co m) {p:Nat} {n:Int} {f:Nat} {X:Fr} {x:En} {g:Pg} (hp:p<m.sp.length) (hn:0≤n∧n<64) (h0:(ent m p n).k=0) (hf:f<m.m.fs.length)
  (hxk:x.k=1) (hxn:x.n=f) (hX:dn X=0) (hr:X.r=(bn m f).r+1)
  (hold:(bn m f).r≠0→X.f=(bn m f).f∧X.i=(bn m f).i∧X.p=(bn m f).p∧X.d=(bn m f).d)
  (hnew:(bn m f).r=0→X.f<0∧X.d=false)
  (hw:X.f<0→∀q j,(ent m q j).k=1→(ent m q j).n.toNat=f→(ent m q j).w=false)
  (hg:iK m p n=some g) (hfit:KE X g x.w):Rt (aQ (setFr m f X) p n x)∧Co (aQ (setFr m f X) p n x):=by
 have hpt1:Pt (setFr m f X):=h.pt.setFr hX
 have hxE:dm x=0:=(bv x).2 (.inr (.inl ⟨hxk,by have:=((dR _).1 h.pt.fr).1;omega⟩))
 obtain⟨hs0,_,hpt⟩:=fQ (k:=⟨setFr m f X,0⟩) (p:=p) (n:=n) (x:=x) hpt1 hn hxE
 have hp1:p<(setFr m f X).sp.length:=hp
 have hent:∀q j,ent (aQ (setFr m f X) p n x) q j=if q=p∧j=n then x else ent m q j:=fun q j=>jl hp1 hs0 q j
 have hfr:∀y,bn (aQ (setFr m f X) p n x) y=if y=f then X else bn m y:=fun y=>uX hf y
 have hlen:(aQ (setFr m f X) p n x).m.fs.length=m.m.fs.length:=mK
 have hcnt:∀kd i,kd≠0→bP (aQ (setFr m f X) p n x) kd i=bP m kd i+qO (jZ kd i x):=fun kd i hk=>by
  have h1:=mO hp1 hs0 kd i
  have h2:qO (jZ kd i (ent (setFr m f X) p n))=0:=ou (e:=ent (setFr m f X) p n) h0 hk
  have h3:bP (setFr m f X) kd i=bP m kd i:=rfl
  unfold aQ
  omega
 have hsk0:fV m (setFr m f X):=fV.of rfl
 have hsk:fV m (aQ (setFr m f X) p n x):=hsk0.trans (fV.setTb (m:=setFr m f X) (p:=p) (t:=setT (bI (setFr m f X) p).tb n x))
 have hca:sD (aQ (setFr m f X) p n x):=by
  refine⟨h.ca.file,fun c hcm => ?_,fun c hcm => ?_,h.ca.srt⟩
  ·rw[hlen];exact h.ca.lt c hcm
  ·have h1:=h.ca.fr c hcm
   rw[hfr]
   by_cases e:c.k.toNat=f
   ·rw[if_pos e]
    rw[e] at h1
    obtain⟨k1,k2,_⟩:=hold (by omega)
    exact⟨by omega,by omega,by omega⟩
   ·rw[if_neg e];exact h1
 refine⟨⟨hpt,h.trim,fun q hq => ?_,hca,fun q j hk => ?_,fun i hi => ?_,fun i hi hi0 => ?_,fun s hs => ?_⟩,⟨fun c hcm => ?_,fun c hcm hd => ?_,fun i hi hd => ?_⟩⟩
 ·rw[hsk.lv] at hq
  obtain⟨a1,a2⟩:=h.live q hq
  refine⟨by rw[hsk.ar];exact a1,fun j => ?_⟩
  rw[hent,if_neg]
  ·exact a2 j
  ·rintro⟨rfl,rfl⟩
   have:iK m q j=onA (bI m q).ar j:=rfl
   rw[this,a1] at hg
   cases hg
 ·have hpg:iK (aQ (setFr m f X) p n x) q j=iK m q j:=by unfold iK;rw[hsk.ar]
  rw[hpg]
  rw[hent] at hk ⊢
  by_cases e:q=p∧j=n
  ·rw[if_pos e] at hk ⊢
   rw[e.1,e.2]
   refine⟨g,hg,fun hk2=>by omega,fun _=>by rw[hlen];omega,fun _ => ?_⟩
   rw[hfr,if_pos (by omega)]
   exact hfit
  ·rw[if_neg e] at hk ⊢
   obtain⟨y,hy,hyf⟩:=h.en q j hk
   refine⟨y,hy,hyf.sw,by rw[hlen];exact hyf.lt,fun hk1 => ?_⟩
   rw[hfr]
   by_cases e2:(ent m q j).n.toNat=f
   ·rw[if_pos e2]
    have h1:=hyf.fr hk1
    rw[e2] at h1
    have h2:=vk h hk1 e2
    have h3:=h.cf f hf
    obtain⟨k1,k2,_,_⟩:=hold (by omega)
    obtain⟨f1,f2,f3,f4,f5⟩:=h1
    refine⟨by rw[k1,k2];exact f1,by rw[k1];exact f2,f3,by rw[k1];exact f4,fun hw1 hx0 => ?_⟩
    rw[hw hx0 q j hk1 e2] at hw1;cases hw1
   ·rw[if_neg e2];exact hyf.fr hk1
 ·have a1:qM (aQ (setFr m f X) p n x) i=qM m i:=rfl
  rw[hfr,a1,hcnt 1 i (by decide),lF]
  have h3:=h.cf i (by rw[←hlen];exact hi)
  by_cases e:i=f
  ·subst e
   rw[if_pos rfl,if_pos ⟨hxk,hxn⟩,hr];omega
  ·rw[if_neg e,if_neg (fun h'=>e (by omega))];omega
 ·rw[hfr] at hi0
  by_cases e:i=f
  ·subst e
   rw[if_pos rfl] at hi0
   by_cases hr0:(bn m i).r=0
   ·have:=(hnew hr0).1;omega
   ·obtain⟨k1,_⟩:=hold hr0
    exact h.fc i hf (by omega)
  ·rw[if_neg e] at hi0
   exact h.fc i (by rw[←hlen];exact hi) hi0
 ·rw[hcnt 2 s (by decide),lF,if_neg (fun h'=>by omega)]
  exact h.cs s hs
 ·have h1:=h.ca.fr c hcm
  rw[hfr]
  by_cases e:c.k.toNat=f
  ·rw[if_pos e]
   rw[e] at h1
   obtain⟨_,_,k3,_⟩:=hold (by omega)
   rw[k3,←e];exact hc.tail c hcm
  ·rw[if_neg e];exact hc.tail c hcm
 ·have h1:=h.ca.fr c hcm
  rw[hfr] at hd ⊢
  by_cases e:c.k.toNat=f
  ·rw[if_pos e] at hd ⊢
   rw[e] at h1
   obtain⟨_,_,k3,k4⟩:=hold (by omega)
   rw[k3,←e]
   exact hc.clean c hcm (by rw[e,←k4];exact hd)
  ·rw[if_neg e] at hd ⊢; exact hc.clean c hcm hd
 ·rw[hfr] at hd ⊢
  by_cases e:i=f
  ·subst e
   rw[if_pos rfl] at hd ⊢
   by_cases hr0:(bn m i).r=0
   ·rw[(hnew hr0).2] at hd;cases hd
   ·obtain⟨k1,_,_,k4⟩:=hold hr0
    rw[k1];exact hc.anon i hf (by rw[←k4];exact hd)
  ·rw[if_neg e] at hd ⊢; exact hc.anon i (by rw[←hlen];exact hi) hd
theorem xZ {m:Ma} (h:Rt m) (hc:Co m) {p:Nat} {n:Int} {s:Nat} {d:rQ} {x:En} {g:Pg} (hp:p<m.sp.length) (hn:0≤n∧n<64) (h0:(ent m p n).k=0) (hs:s<m.sl.length)
  (hxk:x.k=2) (hxn:x.n=s) (hxw:x.w=false) (h1k:fB m s+1≤1000) (hd:bD d=0) (hdl:d.blocks.length=m.sw.blocks.length) (hg:iK m p n=some g) (hsh:g.sh=false) :
  Rt (aQ { setSl m s (fB m s+1) with sw:=d } p n x)∧Co (aQ { setSl m s (fB m s+1) with sw:=d } p n x):=by
 have hb:=h.pt.slB s
 have hpt0:Pt (setSl m s (fB m s+1)):=h.pt.setSl (by omega) h1k
 have hpt1:Pt { setSl m s (fB m s+1) with sw:=d }:={ hpt0 with sw:=hd,swl:=by show d.blocks.length=_;rw[hdl];exact hpt0.swl }
 have hxE:dm x=0:=(bv x).2 (.inr (.inr ⟨hxk,by have:=gP h.pt.sl;omega,by have:=gP h.pt.sl;omega,hxw⟩))
 obtain⟨hs0,_,hpt⟩:=fQ (k:=⟨{ setSl m s (fB m s+1) with sw:=d },0⟩) (p:=p) (n:=n) (x:=x) hpt1 hn hxE
 have hp1:p<({ setSl m s (fB m s+1) with sw:=d }:Ma).sp.length:=hp
 generalize hm1:({ setSl m s (fB m s+1) with sw:=d }:Ma)=m1 at *
 have hsp:m1.sp=m.sp:=by rw[←hm1];rfl
 have hm:m1.m=m.m:=by rw[←hm1];rfl
 have hcaE:m1.ca=m.ca:=by rw[←hm1];rfl
 have hstE:m1.st=m.st:=by rw[←hm1];rfl
 have hdkE:m1.dk=m.dk:=by rw[←hm1];rfl
 have hslE:m1.sl=m.sl.set s (fB m s+1):=by rw[←hm1];rfl
 have hent1:∀q j,ent m1 q j=ent m q j:=fun q j=>by unfold ent bI;rw[hsp]
 have hent:∀q j,ent (aQ m1 p n x) q j=if q=p∧j=n then x else ent m q j:=fun q j=>by rw[←hent1];exact jl hp1 hs0 q j
 have hfr:∀y,bn (aQ m1 p n x) y=bn m y:=fun y=>by unfold bn aQ setTb;simp only;rw[hm]
 have hlen:(aQ m1 p n x).m.fs.length=m.m.fs.length:=by unfold aQ setTb;simp only;rw[hm]
 have hcnt:∀kd i,kd≠0→bP (aQ m1 p n x) kd i=bP m kd i+qO (jZ kd i x):=fun kd i hk=>by
  have h1:=mO hp1 hs0 kd i
  have h2:qO (jZ kd i (ent m1 p n))=0:=ou (by rw[hent1];exact h0) hk
  have h3:bP m1 kd i=bP m kd i:=by unfold bP;rw[hsp]
  unfold aQ
  omega
 have hsk:fV m (aQ m1 p n x):=(fV.of hsp).trans fV.setTb
 have hcaS:(aQ m1 p n x).ca=m.ca:=hcaE
 have hstS:(aQ m1 p n x).st=m.st:=hstE
 have hdkS:(aQ m1 p n x).dk=m.dk:=hdkE
 have hdisk:∀a b,ji (aQ m1 p n x) a b=ji m a b:=fun a b=>by unfold ji;rw[hstS,hdkS]
 refine⟨⟨hpt,by rw[hdkS,hstS];exact h.trim,fun q hq => ?_,⟨by rw[hcaS,hstS];exact h.ca.file,by rw[hcaS,hlen];exact h.ca.lt,fun c hcm=>by rw[hfr];exact h.ca.fr c (by rw[←hcaS];exact hcm),by rw[hcaS];exact h.ca.srt⟩,fun q j hk => ?_,fun i hi => ?_,fun i hi hi0 => ?_,fun i hi => ?_⟩,⟨fun c hcm => ?_,fun c hcm hd => ?_,fun i hi hd => ?_⟩⟩
 ·rw[hsk.lv] at hq
  obtain⟨a1,a2⟩:=h.live q hq
  refine⟨by rw[hsk.ar];exact a1,fun j => ?_⟩
  rw[hent,if_neg]
  ·exact a2 j
  ·rintro⟨rfl,rfl⟩
   have:iK m q j=onA (bI m q).ar j:=rfl
   rw[this,a1] at hg
   cases hg
 ·have hpg:iK (aQ m1 p n x) q j=iK m q j:=by unfold iK;rw[hsk.ar]
  have hsll:(aQ m1 p n x).sl.length=m.sl.length:=by show m1.sl.length=_;rw[hslE,List.length_set]
  rw[hpg]
  rw[hent] at hk ⊢
  by_cases e:q=p∧j=n
  ·rw[if_pos e] at hk ⊢
   rw[e.1,e.2]
   exact⟨g,hg,fun _=>⟨by rw[hsll];omega,hsh⟩,fun hk1=>by omega,fun hk1=>by omega⟩
  ·rw[if_neg e] at hk ⊢
   obtain⟨y,hy,hyf⟩:=h.en q j hk
   exact⟨y,hy,by rw[hsll];exact hyf.sw,by rw[hlen];exact hyf.lt,fun hk1=>by rw[hfr];exact hyf.fr hk1⟩
 ·have a1:qM (aQ m1 p n x) i=qM m i:=by unfold qM;rw[hcaS]
  rw[hfr,a1,hcnt 1 i (by decide),lF,if_neg (fun h'=>by omega)]
  exact h.cf i (by rw[←hlen];exact hi)
 ·rw[hcaS]
  rw[hfr] at hi0
  exact h.fc i (by rw[←hlen];exact hi) hi0
 ·have hi' : i<m.sl.length:=by
   have:(aQ m1 p n x).sl=m1.sl:=rfl
   rw[this,hslE,List.length_set] at hi;exact hi
  have hsl:fB (aQ m1 p n x) i=if i=s then fB m s+1 else fB m i:=by
   have h1:=yS (x:=fB m s+1) hs i
   have h2:fB (aQ m1 p n x) i=fB (setSl m s (fB m s+1)) i:=by unfold fB;show m1.sl.getD i 0=_;rw[hslE];rfl
   rw[h2,h1]
  rw[hsl,hcnt 2 i (by decide),lF]
  have h3:=h.cs i hi'
  by_cases e:i=s
  ·subst e
   rw[if_pos rfl,if_pos ⟨hxk,hxn⟩];omega
  ·rw[if_neg e,if_neg (fun h'=>e (by omega))];omega
 ·rw[hfr,hstS];rw[hcaS] at hcm;exact hc.tail c hcm
 ·rw[hcaS] at hcm;rw[hfr] at hd ⊢; rw[hdisk];exact hc.clean c hcm hd
 ·rw[hfr] at hd ⊢; exact hc.anon i (by rw[←hlen];exact hi) hd
theorem BS {m:Ma} (h:Rt m) (hc:Co m) {p:Nat} {n:Int} (hk:(ent m p n).k=1):Rt (aQ m p n ⟨1,(ent m p n).n,false⟩)∧Co (aQ m p n ⟨1,(ent m p n).n,false⟩):=by
 have hin:=jC (m:=m) (p:=p) (n:=n) (by rw[hk];decide)
 have hE:=(bv _).1 (kN h.pt p n)
 have hxE:dm ⟨1,(ent m p n).n,false⟩=0:=(bv _).2 (.inr (.inl ⟨rfl,by show 0≤(ent m p n).n;omega,by show (ent m p n).n<40;omega⟩))
 generalize hx:(⟨1,(ent m p n).n,false⟩:En)=x at *
 have hxk:x.k=1:=by rw[←hx]
 have hxn:x.n=(ent m p n).n:=by rw[←hx]
 have hxw:x.w=false:=by rw[←hx]
 obtain⟨hs0,_,hpt⟩:=fQ (k:=⟨m,0⟩) (p:=p) (n:=n) (x:=x) h.pt hin.2 hxE
 have hent:∀q j,ent (aQ m p n x) q j=if q=p∧j=n then x else ent m q j:=fun q j=>jl hin.1 hs0 q j
 have hcnt:∀kd i,bP (aQ m p n x) kd i=bP m kd i:=fun kd i=>by
  have h1:=mO hin.1 hs0 kd i
  have h2:qO (jZ kd i (ent m p n))=qO (jZ kd i x):=by rw[lF,lF,hxk,hxn,hk]
  unfold aQ
  omega
 have hsk:fV m (aQ m p n x):=fV.setTb
 refine⟨⟨hpt,h.trim,fun q hq => ?_,⟨h.ca.file,h.ca.lt,h.ca.fr,h.ca.srt⟩,fun q j hk' => ?_,fun i hi=>by rw[hcnt];exact h.cf i hi,h.fc,fun s hs=>by rw[hcnt];exact h.cs s hs⟩,⟨hc.tail,hc.clean,hc.anon⟩⟩
 ·rw[hsk.lv] at hq
  obtain⟨a1,a2⟩:=h.live q hq
  refine⟨by rw[hsk.ar];exact a1,fun j => ?_⟩
  rw[hent,if_neg]
  ·exact a2 j
  ·rintro⟨rfl,rfl⟩
   have:=a2 j;omega
 ·have hpg:iK (aQ m p n x) q j=iK m q j:=by unfold iK;rw[hsk.ar]
  rw[hpg]
  rw[hent] at hk' ⊢
  by_cases e:q=p∧j=n
  ·rw[if_pos e] at hk' ⊢
   rw[e.1,e.2]
   obtain⟨y,hy,hyf⟩:=h.en p n (by rw[hk];decide)
   have h1:=hyf.lt hk
   obtain⟨f1,f2,f3,f4,f5⟩:=hyf.fr hk
   refine⟨y,hy,fun hk2=>by omega,fun _=>by rw[hxn];exact h1,fun _ => ?_⟩
   rw[hxn,hxw]
   exact⟨f1,f2,fun h=>(by cases h),fun h=>(by cases h),fun h=>(by cases h)⟩
  ·rw[if_neg e] at hk' ⊢
   obtain⟨y,hy,hyf⟩:=h.en q j hk'
   exact⟨y,hy,hyf.sw,hyf.lt,hyf.fr⟩
theorem ww {m:Ma} (h:Rt m) (hc:Co m) {s:Sp} (hl:m.sp.length<4) (hv:s.lv=true) (ha:(aT s.ar).1=0) (ht:s.tb=zTb):Rt { m with sp:=m.sp++[s] }∧Co { m with sp:=m.sp++[s] }:=by
 have hspN:∀q,bI { m with sp:=m.sp++[s] } q=if q=m.sp.length then s else bI m q:=fun q=>by
  unfold bI
  show (m.sp++[s]).getD q zSp=_
  rw[List.getD_eq_getElem?_getD,List.getElem?_append]
  by_cases e:q<m.sp.length
  ·rw[if_pos e,if_neg (by omega),List.getD_eq_getElem?_getD]
  ·rw[if_neg e]
   by_cases e2:q=m.sp.length
   ·rw[if_pos e2,e2,Nat.sub_self];rfl
   ·rw[if_neg e2,List.getD_eq_getElem?_getD,List.getElem?_eq_none (by simp;omega),List.getElem?_eq_none (by omega)]
 have hent:∀q j,ent { m with sp:=m.sp++[s] } q j=ent m q j:=fun q j=>by
  unfold ent
  rw[hspN]
  by_cases e:q=m.sp.length
  ·rw[if_pos e,iT (by omega),ht];rfl
  ·rw[if_neg e]
 have hcnt:∀kd i,kd≠0→bP { m with sp:=m.sp++[s] } kd i=bP m kd i:=fun kd i hk=>by
  unfold bP
  show ((m.sp++[s]).map _).sum=_
  rw[List.map_append,List.sum_append]
  have:([s].map fun s=>(bA s.tb).countP (jZ kd i)).sum=0:=by
   rw[List.map_singleton,List.sum_singleton,ht,List.countP_eq_zero]
   intro e he
   unfold bA at he
   obtain⟨j,_,rfl⟩:=List.mem_map.1 he
   rw[jr]
   unfold jZ
   simp only[Bool.and_eq_true,decide_eq_true_eq]
   rintro⟨h1,_⟩
   exact hk h1.symm
  omega
 refine⟨⟨{ h.pt with spl:=by simp;omega,ar:=fun y hy => ?_,tb:=fun y hy => ?_ },h.trim,fun q hq => ?_,⟨h.ca.file,h.ca.lt,h.ca.fr,h.ca.srt⟩,fun q j hk => ?_,fun i hi=>by rw[hcnt 1 i (by decide)];exact h.cf i hi,h.fc,fun i hi=>by rw[hcnt 2 i (by decide)];exact h.cs i hi⟩,⟨hc.tail,hc.clean,hc.anon⟩⟩
 ·rcases List.mem_append.1 hy with hy|hy
  ·exact h.pt.ar y hy
  ·rw[List.mem_singleton.1 hy];exact ha
 ·rcases List.mem_append.1 hy with hy|hy
  ·exact h.pt.tb y hy
  ·rw[List.mem_singleton.1 hy,ht];decide
 ·rw[hspN] at hq ⊢
  by_cases e:q=m.sp.length
  ·rw[if_pos e,hv] at hq;cases hq
  ·rw[if_neg e] at hq ⊢
   refine⟨(h.live q hq).1,fun j=>by rw[hent];exact (h.live q hq).2 j⟩
 ·rw[hent] at hk ⊢
  obtain⟨y,hy,hyf⟩:=h.en q j hk
  have hq:=jC hk
  refine⟨y,?_,hyf.sw,hyf.lt,hyf.fr⟩
  unfold iK at hy ⊢
  rw[hspN,if_neg (by omega)]
  exact hy
def dw (T:List (List En)) (p:Nat):List En:=T.getD p []
def dz (T:List (List En)) (p n:Nat):En:=(dw T p).getD n zEn
def bX (m:Ma) (T:List (List En)):Ma:={ m with sp:=(List.range m.sp.length).map fun p => { bI m p with tb:=dI (dw T p) } }
structure sO (m:Ma) (T:List (List En)):Prop where
 len:T.length=m.sp.length
 ln:∀t∈T,t.length=64
 en:∀t∈T,∀x∈t,dm x=0
theorem gJ {m:Ma} {T:List (List En)}:(bX m T).sp.length=m.sp.length:=by unfold bX;simp
theorem rf {m:Ma} {T:List (List En)} {p:Nat} (hp:p<m.sp.length):bI (bX m T) p = { bI m p with tb:=dI (dw T p) }:=by
 have:bI (bX m T) p=((List.range m.sp.length).map fun p=>({ bI m p with tb:=dI (dw T p) }:Sp)).getD p zSp:=rfl
 rw[this,List.getD_eq_getElem?_getD,List.getElem?_map,List.getElem?_range hp]
 rfl
theorem sO.mem {m:Ma} {T:List (List En)} (h:sO m T) {p:Nat} (hp:p<m.sp.length):dw T p∈T:=by
 unfold dw
 rw[List.getD_eq_getElem?_getD,List.getElem?_eq_getElem (by rw[h.len];exact hp)]
 exact List.getElem_mem _
theorem sO.l64 {m:Ma} {T:List (List En)} (h:sO m T) {p:Nat} (hp:p<m.sp.length):(dw T p).length=64:=h.ln _ (h.mem hp)
theorem sO.right {m:Ma} {T:List (List En)} (h:sO m T) {p:Nat} (hp:p<m.sp.length):bB (dI (dw T p))=0:=uw (h.en _ (h.mem hp)) (h.l64 hp)
theorem iq {m:Ma} {T:List (List En)} (h:sO m T) {p n:Nat} (hp:p<m.sp.length) (hn:n<64):ent (bX m T) p n=dz T p n:=by
 unfold ent dz
 rw[rf hp]
 show bT (dI (dw T p)) n=_
 rw[qJ (h.en _ (h.mem hp)) (h.l64 hp) hn,List.getD_eq_getElem?_getD,List.getElem?_eq_getElem (by rw[h.l64 hp];exact hn)]
 rfl
theorem qx {m:Ma} {T:List (List En)} (h:sO m T) {p n:Nat} (hp:p<m.sp.length) (hn:n<64):dm (dz T p n)=0:=by
 unfold dz
 rw[List.getD_eq_getElem?_getD,List.getElem?_eq_getElem (by rw[h.l64 hp];exact hn)]
 exact h.en _ (h.mem hp) _ (List.getElem_mem _)
def setL (T:List (List En)) (p n:Nat) (x:En):List (List En):=T.set p ((dw T p).set n x)
theorem lw {T:List (List En)} {p:Nat} (hp:p<T.length) {n:Nat} {x:En} (q:Nat):dw (setL T p n x) q=if q=p then (dw T p).set n x else dw T q:=by
 unfold dw setL
 rw[List.getD_eq_getElem?_getD,List.getElem?_set]
 by_cases e:q=p
 ·subst e;rw[if_pos rfl,if_pos hp,if_pos rfl];rfl
 ·rw[if_neg (fun h=>e h.symm),if_neg e,List.getD_eq_getElem?_getD]
theorem sO.set {m:Ma} {T:List (List En)} (h:sO m T) {p n:Nat} {x:En} (hp:p<m.sp.length) (hx:dm x=0):sO m (setL T p n x):=by
 refine⟨by unfold setL;rw[List.length_set];exact h.len,fun t ht => ?_,fun t ht y hy => ?_⟩
 ·rcases List.mem_or_eq_of_mem_set ht with ht|rfl
  ·exact h.ln t ht
  ·rw[List.length_set];exact h.l64 hp
 ·rcases List.mem_or_eq_of_mem_set ht with ht|rfl
  ·exact h.en t ht y hy
  ·rcases List.mem_or_eq_of_mem_set hy with hy|rfl
   ·exact h.en _ (h.mem hp) y hy
   ·exact hx
theorem nZ {m:Ma} {T:List (List En)} (h:sO m T) {p n:Nat} {x:En} (hp:p<m.sp.length) (hn:n<64) (q j:Nat):dz (setL T p n x) q j=if q=p∧j=n then x else dz T q j:=by
 unfold dz
 rw[lw (by rw[h.len];exact hp)]
 by_cases e:q=p
 ·subst e
  rw[if_pos rfl,List.getD_eq_getElem?_getD,List.getElem?_set]
  by_cases e2:j=n
  ·subst e2
   rw[if_pos rfl,if_pos (by rw[h.l64 hp];exact hn),if_pos ⟨rfl,rfl⟩];rfl
  ·rw[if_neg (fun h=>e2 h.symm),if_neg (fun h=>e2 h.2),List.getD_eq_getElem?_getD]
 ·rw[if_neg e,if_neg (fun h=>e h.1)]
theorem lg {m:Ma} {T:List (List En)} (h:sO m T) {p n:Nat} {x:En} (hp:p<m.sp.length) (hn:n<64) (hx:dm x=0):aQ (bX m T) p n x=bX m (setL T p n x):=by
 have hl:=h.l64 hp
 have hw:=h.right hp
 have hse:setE (dI (dw T p)) n x=0:=DL hw ⟨by omega,by omega⟩ hx
 have ht:setT (dI (dw T p)) n x=dI ((dw T p).set n x):=by
  rw[←qU (qp hse),sG hse,vE (h.en _ (h.mem hp)) hl,Int.toNat_natCast]
 unfold aQ setTb
 rw[rf hp]
 show { bX m T with sp:=(bX m T).sp.set p { bI m p with tb:=setT (dI (dw T p)) n x } }=bX m (setL T p n x)
 rw[ht]
 refine congrArg (fun s=>({ m with sp:=s }:Ma)) (?_:((List.range m.sp.length).map fun p=>({ bI m p with tb:=dI (dw T p) }:Sp)).set p { bI m p with tb:=dI ((dw T p).set n x) }=(List.range m.sp.length).map fun q=>({ bI m q with tb:=dI (dw (setL T p n x) q) }:Sp))
 apply List.ext_getElem?
 intro q
 rw[List.getElem?_set,List.getElem?_map,List.getElem?_map]
 simp only[List.length_map,List.length_range]
 by_cases e:q=p
 ·subst e
  rw[if_pos rfl,if_pos hp,List.getElem?_range hp,Option.map_some,lw (by rw[h.len];exact hp),if_pos rfl]
 ·rw[if_neg (fun h=>e h.symm)]
  by_cases hq:q<m.sp.length
  ·rw[List.getElem?_range hq,Option.map_some,Option.map_some,lw (by rw[h.len];exact hp),if_neg e]
  ·rw[List.getElem?_eq_none (by simp;omega),Option.map_none,Option.map_none]
theorem sj {m:Ma} {T:List (List En)} {f:Nat} {X:Fr}:setFr (bX m T) f X=bX (setFr m f X) T:=rfl
theorem sO.fr {m:Ma} {T:List (List En)} (h:sO m T) {f:Nat} {X:Fr}:sO (setFr m f X) T:=⟨h.len,h.ln,h.en⟩
theorem sO.sps {m m' : Ma} {T:List (List En)} (h:sO m T) (e:m'.sp.length=m.sp.length):sO m' T:=⟨by rw[e];exact h.len,h.ln,h.en⟩
theorem jA {m:Ma} {T:List (List En)} {p:Nat} (hp:p<m.sp.length) (n:Int):iK (bX m T) p n=onA (bI m p).ar n:=by
 unfold iK;rw[rf hp]
theorem Cy {m:Ma} {T:List (List En)} (h:sO m T) (s:Sp):bX { m with sp:=m.sp++[s] } (T++[List.replicate 64 zEn]) = { bX m T with sp:=(bX m T).sp++[{ s with tb:=zTb }] }:=by
 have hz:dI (List.replicate 64 zEn)=zTb:=by decide +kernel
 unfold bX
 simp only[Ma.mk.injEq,true_and,List.length_append,List.length_singleton]
 rw[List.range_succ,List.map_append]
 congr 1
 ·apply List.map_congr_left
  intro p hp
  have hp':=List.mem_range.1 hp
  unfold bI dw
  simp only[List.getD_eq_getElem?_getD]
  rw[List.getElem?_append_left hp',List.getElem?_append_left (by rw[h.len];exact hp')]
 ·unfold bI dw
  simp only[List.map_cons,List.map_nil,List.getD_eq_getElem?_getD]
  rw[List.getElem?_append_right (Nat.le_refl _),Nat.sub_self,←h.len,List.getElem?_append_right (Nat.le_refl _),Nat.sub_self]
  simp only[List.getElem?_cons_zero,Option.getD_some]
  rw[hz]
theorem sO.more {m:Ma} {T:List (List En)} (h:sO m T) (s:Sp):sO { m with sp:=m.sp++[s] } (T++[List.replicate 64 zEn]):=by
 refine⟨by simp[h.len],fun t ht => ?_,fun t ht x hx => ?_⟩
 ·rcases List.mem_append.1 ht with ht|ht
  ·exact h.ln t ht
  ·rw[List.mem_singleton.1 ht,List.length_replicate]
 ·rcases List.mem_append.1 ht with ht|ht
  ·exact h.en t ht x hx
  ·rw[List.mem_singleton.1 ht] at hx
   rw[(List.mem_replicate.1 hx).2];decide
def qG (m1:Ma) (g:Nat) (X:Fr) (f i:Int):Ma:={ setFr m1 g X with ca:=m1.ca.insertIdx (BN m1.ca f i) ⟨f,i,g⟩ }
theorem Kk {m1:Ma} {g:Nat} {f i:Int} {X:Fr} (h:Rt m1) (hc:Co m1) (hg:g<m1.m.fs.length) (hz:(bn m1 g).r=0) (hin:Ay m1.st f i) (hno:∀c∈m1.ca,¬(c.f=f∧c.i=i))
  (hX:X.r=1∧X.f=f∧X.i=i) (ht:dK X.p ((fileAt m1.st f).n-i*8)=X.p) (hd:X.d=false→X.p=ji m1 f i) :
  Rt (qG m1 g X f i)∧Co (qG m1 g X f i):=by
 have hlim:=zu h.pt.st hin
 have hxE:dn X=0:=by
  rw[ig]
  have h1:=hin.1;have h2:=hin.2
  exact⟨⟨by omega,by omega,by omega,by omega,by omega,by omega⟩,fun e=>by omega,fun e=>by omega⟩
 have hfr:∀x,bn (qG m1 g X f i) x=if x=g then X else bn m1 x:=fun x=>uX hg x
 have hfrn:∀x,x≠g→bn (qG m1 g X f i) x=bn m1 x:=fun x hx=>by rw[hfr,if_neg hx]
 have hlen:(qG m1 g X f i).m.fs.length=m1.m.fs.length:=mK
 have hmem:∀c,c∈(qG m1 g X f i).ca↔c=⟨f,i,g⟩∨c∈m1.ca:=fun c=>List.mem_insertIdx (GG _ _ _)
 have hkg:∀c∈m1.ca,c.k.toNat≠g:=fun c hcm e=>by
  have:=(h.ca.fr c hcm).1
  rw[e,hz] at this
  exact absurd this (by decide)
 have hdisk:∀f' i',ji (qG m1 g X f i) f' i' = ji m1 f' i':=fun _ _=>rfl
 have hholdg:bP m1 1 g=0∧qM m1 g=0:=by
  have:=h.cf g hg
  omega
 have hpt:Pt (qG m1 g X f i):={ fr:=Jg h.pt.fr hxE,sl:=h.pt.sl,sw:=h.pt.sw,dk:=h.pt.dk,st:=h.pt.st,swl:=h.pt.swl,dkl:=h.pt.dkl,spl:=h.pt.spl,ar:=h.pt.ar,tb:=h.pt.tb }
 have hcaok:sD (qG m1 g X f i):=by
  refine⟨fun c hcm => ?_,fun c hcm => ?_,fun c hcm => ?_,wZ h.ca.srt hno⟩
  ·rcases (hmem c).1 hcm with rfl|hcm
   ·exact hin
   ·exact h.ca.file c hcm
  ·rw[hlen]
   rcases (hmem c).1 hcm with rfl|hcm
   ·show 0≤(g:Int)∧(g:Int)<_;omega
   ·exact h.ca.lt c hcm
  ·rcases (hmem c).1 hcm with rfl|hcm
   ·rw[hfr,if_pos (Int.toNat_natCast g)]
    exact⟨by omega,hX.2.1,hX.2.2⟩
   ·rw[hfrn _ (hkg c hcm)];exact h.ca.fr c hcm
 have hent:∀p n,ent (qG m1 g X f i) p n=ent m1 p n:=fun _ _=>rfl
 have hentg:∀p n,(ent m1 p n).k=1→(ent m1 p n).n.toNat≠g:=by
  intro p n hk e
  have h3:=jC (m:=m1) (p:=p) (n:=n) (by rw[hk];decide)
  have h5:=(bv _).1 (kN h.pt p n)
  have h4:=(iL (m:=m1) (kd:=1) (i:=g) (by decide)).2 ⟨p,n,h3.1,h3.2,hk,by omega⟩
  omega
 refine⟨⟨hpt,h.trim,h.live,hcaok,fun p n hk => ?_,fun x hx => ?_,fun x hx h0 => ?_,h.cs⟩,⟨fun c hcm => ?_,fun c hcm hd' => ?_,fun x hx hd' => ?_⟩⟩
 ·rw[hent] at hk ⊢
  obtain⟨y,hy,hfit⟩:=h.en p n hk
  exact⟨y,hy,hfit.sw,by rw[hlen];exact hfit.lt,fun hk1=>by rw[hfrn _ (hentg p n hk1)];exact hfit.fr hk1⟩
 ·have a1:qM (qG m1 g X f i) x=qM m1 x+qO (decide ((g:Int)=x)):=qd _ _ _ _ (GG _ _ _)
  have a2:bP (qG m1 g X f i) 1 x=bP m1 1 x:=rfl
  rw[hfr,a1,a2]
  by_cases e:x=g
  ·subst e
   rw[if_pos rfl,hholdg.1,hholdg.2]
   have:qO (decide ((x:Int)=(x:Int)))=1:=by simp[qO]
   rw[this,hX.1];rfl
  ·rw[if_neg e]
   have:qO (decide ((g:Int)=(x:Int)))=0:=by unfold qO;rw[if_neg];simp only[decide_eq_true_eq];omega
   rw[this]
   exact h.cf x (by rw[←hlen];exact hx)
 ·by_cases e:x=g
  ·exact⟨⟨f,i,g⟩,(hmem _).2 (.inl rfl),by rw[e]⟩
  ·rw[hfrn x e] at h0
   obtain⟨c,hcm,hck⟩:=h.fc x (by rw[←hlen];exact hx) h0
   exact⟨c,(hmem c).2 (.inr hcm),hck⟩
 ·rcases (hmem c).1 hcm with rfl|hcm
  ·rw[hfr,if_pos (Int.toNat_natCast g)]
   exact ht
  ·rw[hfrn _ (hkg c hcm)];exact hc.tail c hcm
 ·rcases (hmem c).1 hcm with rfl|hcm
  ·rw[hfr,if_pos (Int.toNat_natCast g)] at hd' ⊢; rw[hdisk];exact hd hd'
  ·rw[hfrn _ (hkg c hcm)] at hd' ⊢
   rw[hdisk];exact hc.clean c hcm hd'
 ·by_cases e:x=g
  ·rw[hfr,if_pos e]
   have:=hin.1.1
   omega
  ·rw[hfrn x e] at hd' ⊢; exact hc.anon x (by rw[←hlen];exact hx) hd'
theorem JV {m:Ma} (h:Rt m) (hc:Co m) {x:Int} (hx:cz ⟨m.m.fs,x⟩=0):Rt { m with m:=⟨m.m.fs,x⟩ }∧Co { m with m:=⟨m.m.fs,x⟩ }:=
 ⟨⟨{ h.pt with fr:=hx },h.trim,h.live,⟨h.ca.file,h.ca.lt,h.ca.fr,h.ca.srt⟩,fun p n hk=>have ⟨y,hy,hf⟩:=h.en p n hk;⟨y,hy,hf.sw,hf.lt,hf.fr⟩,h.cf,h.fc,h.cs⟩,⟨hc.tail,hc.clean,hc.anon⟩⟩
theorem IG {α:Type} (g:α→Nat) (c:Nat) (h:∀x,g x≤c):∀l:List α,(l.map g).sum≤c*l.length
 | []=>by simp
 | x::l=>by
  have h1:=IG g c h l
  have h2:=h x
  rw[List.map_cons,List.sum_cons,List.length_cons,Nat.mul_succ]
  omega
theorem pM (t:Tb):(bA t).length=64:=by unfold bA;simp
theorem wO (m:Ma) (kd i:Int):bP m kd i≤64*m.sp.length:=IG _ 64 (fun s=>by rw[←pM s.tb];exact List.countP_le_length) _
theorem Ju {m:Ma} (h:sD m) (i:Int):qM m i≤1:=sQ h.srt fun a ha b hb e=>h.uniq ha hb e
theorem Rt.fewR {m:Ma} (h:Rt m) {f:Nat} (hf:f<m.m.fs.length):0≤(bn m f).r∧(bn m f).r≤257:=by
 have h1:=h.cf f hf
 have h2:=wO m 1 f
 have h3:=Ju h.ca f
 have h4:=h.pt.spl
 omega
theorem Rt.fewS {m:Ma} (h:Rt m) {s:Nat} (hs:s<m.sl.length):0≤fB m s∧fB m s≤256:=by
 have h1:=h.cs s hs
 have h2:=wO m 2 s
 have h4:=h.pt.spl
 omega
theorem zR {m:Ma} (h:Pt m) {kd i:Int} (hk:kd≠0) {p q:Nat} {n j:Int} (h1:(ent m p n).k=kd∧(ent m p n).n=i) (h2:(ent m q j).k=kd∧(ent m q j).n=i) (hne:¬(q=p∧j=n)):2≤bP m kd i:=by
 have e1:=jC (m:=m) (p:=p) (n:=n) (by omega)
 have e2:=jC (m:=m) (p:=q) (n:=j) (by omega)
 obtain⟨hs0,_,_⟩:=fQ (k:=⟨m,0⟩) (p:=p) (n:=n) (x:=zEn) h e1.2 (by decide)
 have a1:=mO e1.1 hs0 kd i
 have a2:qO (jZ kd i (ent m p n))=1:=by rw[lF,if_pos h1]
 have a3:qO (jZ kd i zEn)=0:=ou rfl hk
 have a4:0<bP (setTb m p (setT (bI m p).tb n zEn)) kd i:=by
  refine (iL hk).2 ⟨q,j,by rw[pF];exact e2.1,e2.2,?_⟩
  rw[jl e1.1 hs0,if_neg hne]
  exact h2
 have a5:bP ({ m:=m,e:=0 }:Kp).m kd i=bP m kd i:=rfl
 omega
def dD (x:Fr):Fr:={ x with r:=x.r+1 }
theorem Dx {x:Fr} (h:dn x=0) (hr:x.r≠0) (h1:x.r<1000):dn (dD x)=0:=by
 rw[ig] at h ⊢
 obtain⟨⟨a,b,c⟩,d,e⟩:=h
 refine⟨⟨?_,?_,c⟩,fun h0 => ?_,e⟩
 ·show 0≤x.r+1;omega
 ·show x.r+1≤1000;omega
 ·have:x.r+1=0:=h0
  omega
theorem il {m:Ma} (h:Rt m) {p:Nat} {n:Int} (hk:(ent m p n).k=1):∃f:Nat,(ent m p n).n=f∧f<m.m.fs.length∧(bn m f).r≠0∧p<m.sp.length∧(0≤n∧n<64)∧∃g,iK m p n=some g∧KE (bn m f) g (ent m p n).w:=by
 have h1:=jC (m:=m) (p:=p) (n:=n) (by rw[hk];decide)
 have h2:=(bv _).1 (kN h.pt p n)
 obtain⟨g,hg,hf⟩:=h.en p n (by rw[hk];decide)
 have h3:=hf.lt hk
 have h4:=vk h hk rfl
 refine⟨(ent m p n).n.toNat,by omega,h4.2,?_,h1.1,h1.2,g,hg,hf.fr hk⟩
 have:=h.cf _ h4.2
 omega
theorem qz {m:Ma} (h:Rt m) (hc:Co m) {p q:Nat} {n:Int} {f:Nat} {g:Pg} (hk:(ent m p n).k=1) (hn:(ent m p n).n=f) (hq:q<m.sp.length) (h0:(ent m q n).k=0) (hg:iK m p n=some g) (hgq:iK m q n=some g) (hw:(ent m p n).w=true→g.sh=true)
  (hany:(bn m f).f<0→∀a j,(ent m a j).k=1→(ent m a j).n.toNat=f→(ent m a j).w=false) :
  Rt (aQ (setFr m f (dD (bn m f))) q n (ent m p n))∧Co (aQ (setFr m f (dD (bn m f))) q n (ent m p n)):=by
 obtain⟨f',e1,e2,e3,e4,e5,g',e6,e7⟩:=il h hk
 have:f' = f:=by omega
 subst this
 rw[hg] at e6
 cases e6
 have hr:=h.fewR e2
 refine qC (g:=g) h hc hq e5 h0 e2 hk hn (Dx (h.pt.frE e2) e3 (by omega)) rfl (fun _=>⟨rfl,rfl,rfl,rfl⟩) (fun h=>absurd h e3) hany hgq ?_
 obtain⟨f1,f2,f3,f4,f5⟩:=e7
 refine⟨f1,f2,f3,f4,fun hw' hx => ?_⟩
 have:=f2 (hw hw')
 have hx' : (bn m f').f<0:=hx
 omega
theorem xu {m:Ma} (h:Rt m) (hc:Co m) {p q:Nat} {n:Int} {f:Nat} {g:Pg} (hpq:p≠q) (hk:(ent m p n).k=1) (hn:(ent m p n).n=f) (hq:q<m.sp.length) (h0:(ent m q n).k=0) (hg:iK m p n=some g) (hgq:iK m q n=some g) :
  Rt (aQ (aQ (setFr m f (dD (bn m f))) p n ⟨1,f,false⟩) q n ⟨1,f,false⟩)∧Co (aQ (aQ (setFr m f (dD (bn m f))) p n ⟨1,f,false⟩) q n ⟨1,f,false⟩):=by
 obtain⟨f',e1,e2,e3,e4,e5,g',e6,e7⟩:=il h hk
 have:f' = f:=by omega
 subst this
 obtain⟨a1,a2⟩:=BS h hc hk
 rw[hn] at a1 a2
 obtain⟨hs0,_,_⟩:=fQ (k:=⟨m,0⟩) (p:=p) (n:=n) (x:=⟨1,f',false⟩) h.pt e5 ((bv _).2 (.inr (.inl ⟨rfl,by show (0:Int)≤f'; omega,by have:=((dR _).1 h.pt.fr).1;show (f' : Int)<40;omega⟩)))
 have hent:∀a j,ent (aQ m p n ⟨1,f',false⟩) a j=if a=p∧j=n then ⟨1,f',false⟩ else ent m a j:=fun a j=>jl e4 hs0 a j
 have hp:ent (aQ m p n ⟨1,f',false⟩) p n=⟨1,f',false⟩:=by rw[hent,if_pos ⟨rfl,rfl⟩]
 have hsk:fV m (aQ m p n ⟨1,f',false⟩):=fV.setTb
 have hpg:∀a,iK (aQ m p n ⟨1,f',false⟩) a n=iK m a n:=fun a=>by unfold iK;rw[hsk.ar]
 have:=qz (p:=p) (q:=q) (n:=n) (f:=f') (g:=g) a1 a2 (by rw[hp]) (by rw[hp]) (by rw[hsk.len];exact hq) (by rw[hent,if_neg (fun h'=>hpq h'.1.symm)];exact h0) (by rw[hpg];exact hg) (by rw[hpg];exact hgq) (fun h'=>by rw[hp] at h'; cases h') (fun hx a j hk1 hk2 => ?_)
 ·rw[hp] at this
  exact this
 ·rw[hent] at hk1 hk2 ⊢
  by_cases e:a=p∧j=n
  ·rw[if_pos e]
  ·rw[if_neg e] at hk1 hk2 ⊢
   obtain⟨f2,b1,b2,b3,b4,b5,g2,b6,b7⟩:=il h hk1
   have hf2:f2=f':=by omega
   subst hf2
   have h2:=zR h.pt (kd:=1) (i:=f2) (by decide) ⟨hk,hn⟩ ⟨hk1,b1⟩ e
   have h3:=h.cf f2 e2
   obtain⟨c1,c2,c3,c4,c5⟩:=b7
   cases hw:(ent m a j).w with
   | false=>rfl
   | true=>
    have:=c5 hw hx
    omega
theorem vN {m:Ma} (h:Rt m) (hc:Co m) {p q:Nat} {n:Int} {s:Nat} {g:Pg} (hk:(ent m p n).k=2) (hn:(ent m p n).n=s) (hq:q<m.sp.length) (h0:(ent m q n).k=0) (hg:iK m p n=some g) (hgq:iK m q n=some g) :
  Rt (aQ (setSl m s (fB m s+1)) q n (ent m p n))∧Co (aQ (setSl m s (fB m s+1)) q n (ent m p n)):=by
 have h1:=jC (m:=m) (p:=p) (n:=n) (by rw[hk];decide)
 have h2:=(bv _).1 (kN h.pt p n)
 obtain⟨g',hg',hf⟩:=h.en p n (by rw[hk];decide)
 rw[hg] at hg'
 cases hg'
 have h3:=hf.sw hk
 have hs:s<m.sl.length:=by omega
 have h4:=h.fewS hs
 exact xZ (d:=m.sw) (g:=g) h hc hq h1.2 h0 hs hk hn ((h2.resolve_left (fun h'=>by omega)).resolve_left (fun h'=>by omega)).2.2.2 (by omega) h.pt.sw rfl hgq h3.2
structure Bd (m:Ma) (T:List (List En)):Prop where
 ok:sO m T
 rt:Rt (bX m T)
 co:Co (bX m T)
theorem Bd.of {m:Ma} {T:List (List En)} (ok:sO m T) (h:Rt (bX m T)∧Co (bX m T)):Bd m T:=⟨ok,h.1,h.2⟩
theorem Bd.few {m:Ma} {T:List (List En)} (h:Bd m T):m.m.fs.length≤40∧m.sl.length≤60∧m.sp.length≤4∧(m.dk.blocks.length:Int)=m.st.count∧aP m.st=0∧bD m.dk=0∧bD m.sw=0∧m.sw.blocks.length=m.sl.length:=
 ⟨((dR _).1 h.rt.pt.fr).1,gP h.rt.pt.sl,by have:=h.rt.pt.spl;rw[gJ] at this;exact this,h.rt.pt.dkl,h.rt.pt.st,h.rt.pt.dk,h.rt.pt.sw,h.rt.pt.swl⟩
theorem Bd.cachedE {m:Ma} {T:List (List En)} (h:Bd m T) {p n:Nat} (hp:p<m.sp.length) (hn:n<64) (h0:(dz T p n).k=0) {c:Cc} (hcm:c∈m.ca) {g:Pg} (hg:onA (bI m p).ar n=some g) (hf:c.f=g.fi∧c.i=g.pg) {w:Bool} (hw:w=true→g.sh=true∧g.wr=true) :
  Bd (setFr m c.k.toNat (dD (bn m c.k.toNat))) (setL T p n ⟨1,c.k,w⟩):=by
 have hlt:=h.rt.ca.lt c hcm
 have hfr:=h.rt.ca.fr c hcm
 have hfi:=h.rt.ca.file c hcm
 have hlt' : c.k.toNat<m.m.fs.length:=by have:c.k<(bX m T).m.fs.length:=hlt.2;have e:(bX m T).m.fs.length=m.m.fs.length:=rfl;omega
 have hxE:dm ⟨1,c.k,w⟩=0:=(bv _).2 (.inr (.inl ⟨rfl,hlt.1,by have:=h.few.1;have:c.k<(bX m T).m.fs.length:=hlt.2;have e:(bX m T).m.fs.length=m.m.fs.length:=rfl;show c.k<40;omega⟩))
 have hfew:=h.rt.fewR hlt'
 have hfrN:bn (bX m T) c.k.toNat=bn m c.k.toNat:=rfl
 rw[hfrN] at hfr hfew
 refine .of (h.ok.fr.set hp hxE) ?_
 rw[←lg h.ok.fr hp hn hxE,←sj]
 refine qC (g:=g) (f:=c.k.toNat) h.rt h.co (by rw[gJ];exact hp) ⟨by omega,by omega⟩ (by rw[iq h.ok hp hn];exact h0) hlt' rfl (by show c.k=_;omega) (Dx (h.rt.pt.frE hlt') (by omega) (by omega)) rfl (fun _=>⟨rfl,rfl,rfl,rfl⟩) (fun h'=>by rw[hfrN] at h'; omega) (fun hx => ?_) (by rw[jA hp];exact hg) ?_
 ·have:(bn m c.k.toNat).f<0:=hx
  have:=hfi.1.1
  omega
 ·have e1:(dD (bn m c.k.toNat)).f=(bn m c.k.toNat).f:=rfl
  have e2:(dD (bn m c.k.toNat)).i=(bn m c.k.toNat).i:=rfl
  refine⟨fun _=>⟨by omega,by omega⟩,fun _=>by have:=hfi.1.1;omega,fun h'=>(hw h').2,fun h' _=>(hw h').1,fun h' hx => ?_⟩
  have:=hfi.1.1
  omega
theorem Bd.anonE {m:Ma} {T:List (List En)} (h:Bd m T) {p n:Nat} (hp:p<m.sp.length) (hn:n<64) (h0:(dz T p n).k=0) {f:Nat} (hf:f<m.m.fs.length) (hr:(bn m f).r=0) {X:Fr} (hX:X.r=1∧X.d=false∧X.f = -1∧X.i=0) {g:Pg} (hg:onA (bI m p).ar n=some g) (hsh:g.sh=false) {w:Bool} (hw:w=true→g.wr=true) :
  Bd (setFr m f X) (setL T p n ⟨1,f,w⟩):=by
 have hxE:dm ⟨1,f,w⟩=0:=(bv _).2 (.inr (.inl ⟨rfl,by show (0:Int)≤f;omega,by have:=h.few.1;show (f:Int)<40;omega⟩))
 have hfrN:bn (bX m T) f=bn m f:=rfl
 refine .of (h.ok.fr.set hp hxE) ?_
 rw[←lg h.ok.fr hp hn hxE,←sj]
 have hXE:dn X=0:=by
  rw[ig]
  exact⟨⟨by omega,by omega,by omega,by omega,by omega,by omega⟩,fun h'=>by omega,fun _=>hX.2.2.2⟩
 refine qC (g:=g) (f:=f) h.rt h.co (by rw[gJ];exact hp) ⟨by omega,by omega⟩ (by rw[iq h.ok hp hn];exact h0) hf rfl rfl hXE (by rw[hfrN];omega) (fun h'=>by rw[hfrN] at h'; omega) (fun _=>⟨by omega,hX.2.1⟩) (fun hx a j hk1 hk2 => ?_) (by rw[jA hp];exact hg) ?_
 ·have:=vk h.rt hk1 hk2
  have h5:=h.rt.cf f hf
  rw[hfrN] at h5
  omega
 ·exact⟨fun h'=>absurd h' (by omega),fun h'=>(by rw[hsh] at h'; cases h'),hw,fun _ h'=>absurd h' (by omega),fun _ _=>by omega⟩
theorem Bd.slotE {m:Ma} {T:List (List En)} (h:Bd m T) {p n:Nat} (hp:p<m.sp.length) (hn:n<64) (h0:(dz T p n).k=0) {s:Nat} (hs:s<m.sl.length) (hz:fB m s=0) {P:Page} {g:Pg} (hg:onA (bI m p).ar n=some g) (hsh:g.sh=false) :
  Bd { m with sl:=m.sl.set s 1,sw:=⟨m.sw.blocks.set s P,m.sw.queue⟩ } (setL T p n ⟨2,s,false⟩):=by
 have hxE:dm ⟨2,s,false⟩=0:=(bv _).2 (.inr (.inr ⟨rfl,by show (0:Int)≤s;omega,by have:=h.few.2.1;show (s:Int)<60;omega,rfl⟩))
 have hok:sO { m with sl:=m.sl.set s 1,sw:=⟨m.sw.blocks.set s P,m.sw.queue⟩ } T:=h.ok.sps rfl
 refine .of (hok.set hp hxE) ?_
 rw[←lg hok hp hn hxE]
 have hwd:bD ⟨m.sw.blocks.set s P,m.sw.queue⟩=0:=by
  have:=(jN _).1 h.rt.pt.sw
  rw[jN]
  simp only[List.length_set]
  exact this
 have hsl:fB (bX m T) s=0:=hz
 have:=xZ (d:=⟨m.sw.blocks.set s P,m.sw.queue⟩) (x:=⟨2,s,false⟩) (n:=(n:Int)) (g:=g) h.rt h.co (p:=p) (s:=s) (by rw[gJ];exact hp) ⟨by omega,by omega⟩ (by rw[iq h.ok hp hn];exact h0) hs rfl rfl rfl (by rw[hsl];omega) hwd (by rw[List.length_set];rfl) (by rw[jA hp];exact hg) hsh
 rw[hsl] at this
 exact this
theorem Bd.cache {m:Ma} {T:List (List En)} (h:Bd m T) {f i:Int} (hin:Ay m.st f i) (hno:∀c∈m.ca,¬(c.f=f∧c.i=i)) {g:Nat} (hg:g<m.m.fs.length) (hr:(bn m g).r=0) {X:Fr} (hX:X.r=1∧X.f=f∧X.i=i) (ht:dK X.p ((fileAt m.st f).n-i*8)=X.p) (hd:X.d=false→X.p=ji m f i) :
  Bd (qG m g X f i) T:=.of (h.ok.sps rfl) (Kk h.rt h.co hg hr hin hno hX ht hd)
theorem Bd.more {m:Ma} {T:List (List En)} (h:Bd m T) {s:Sp} (hl:m.sp.length<4) (hv:s.lv=true) (ha:(aT s.ar).1=0):Bd { m with sp:=m.sp++[s] } (T++[List.replicate 64 zEn]):=by
 refine .of (h.ok.more s) ?_
 rw[Cy h.ok]
 exact ww h.rt h.co (s:={ s with tb:=zTb }) (by rw[gJ];exact hl) hv ha rfl
theorem Bd.share1 {m:Ma} {T:List (List En)} (h:Bd m T) (hl:m.sp.length=2) {n:Nat} (hn:n<64) (har:(bI m 1).ar=(bI m 0).ar) (hk:(dz T 0 n).k=1) (h0:(dz T 1 n).k=0) {g:Pg} (hg:onA (bI m 0).ar n=some g) {f:Nat} (hf:(dz T 0 n).n=f) {w:Bool} (hw:w=(g.sh&&(dz T 0 n).w)) :
  Bd (setFr m f (dD (bn m f))) (setL (setL T 0 n ⟨1,f,w⟩) 1 n ⟨1,f,w⟩):=by
 have e0:=iq h.ok (p:=0) (by omega) hn
 have e1:=iq h.ok (p:=1) (by omega) hn
 have hg0:iK (bX m T) 0 n=some g:=by rw[jA (by omega)];exact hg
 have hg1:iK (bX m T) 1 n=some g:=by rw[jA (by omega),har];exact hg
 obtain⟨f',a1,a2,_⟩:=il h.rt (p:=0) (n:=n) (by rw[e0];exact hk)
 have a2' : f' < m.m.fs.length:=a2
 have hff:f' = f:=by rw[e0] at a1;omega
 subst hff
 have hxE:∀w,dm ⟨1,f',w⟩=0:=fun w=>(bv _).2 (.inr (.inl ⟨rfl,by show (0:Int)≤f'; omega,by have:=h.few.1;show (f' : Int)<40;omega⟩))
 have hok:=(h.ok.fr (f:=f') (X:=dD (bn m f'))).set (p:=0) (n:=n) (by show 0<m.sp.length;omega) (hxE w)
 refine .of (hok.set (by show 1<m.sp.length;omega) (hxE w)) ?_
 have hex:(⟨1,f',(dz T 0 n).w⟩:En)=dz T 0 n:=by rw[←hf,←hk]
 rw[←lg hok (by show 1<m.sp.length;omega) hn (hxE w)]
 cases hs:g.sh with
 | false=>
  rw[hs,Bool.false_and] at hw
  subst hw
  rw[←lg h.ok.fr (by show 0<m.sp.length;omega) hn (hxE false),←sj]
  exact xu (m:=bX m T) (p:=0) (q:=1) (n:=n) (f:=f') (g:=g) h.rt h.co (by decide) (by rw[e0];exact hk) (by rw[e0];exact hf) (by rw[gJ];omega) (by rw[e1];exact h0) hg0 hg1
 | true=>
  rw[hs,Bool.true_and] at hw
  subst hw
  rw[hex]
  have hself:setL T 0 n (dz T 0 n)=T:=by
   have hl0:dw T 0∈T:=h.ok.mem (by omega)
   have h64:=h.ok.l64 (p:=0) (by omega)
   unfold setL dz
   rw[List.getD_eq_getElem?_getD,List.getElem?_eq_getElem (by omega:n<(dw T 0).length),Option.getD_some,List.set_getElem_self]
   unfold dw
   rw[List.getD_eq_getElem?_getD,List.getElem?_eq_getElem (by rw[h.ok.len];omega:0<T.length),Option.getD_some,List.set_getElem_self]
  rw[hself,←sj,←e0]
  refine qz (m:=bX m T) (p:=0) (q:=1) (n:=n) (f:=f') (g:=g) h.rt h.co (by rw[e0];exact hk) (by rw[e0];exact hf) (by rw[gJ];omega) (by rw[e1];exact h0) hg0 hg1 (fun _=>hs) (fun hx => ?_)
  obtain⟨f2,b1,b2,b3,b4,b5,g2,b6,b7⟩:=il h.rt (p:=0) (n:=n) (by rw[e0];exact hk)
  have:f2=f':=by omega
  subst this
  rw[hg0] at b6
  cases b6
  have:=b7.2.1 hs
  omega
theorem Bd.share2 {m:Ma} {T:List (List En)} (h:Bd m T) (hl:m.sp.length=2) {n:Nat} (hn:n<64) (har:(bI m 1).ar=(bI m 0).ar) (hk:(dz T 0 n).k=2) (h0:(dz T 1 n).k=0) {g:Pg} (hg:onA (bI m 0).ar n=some g) {s:Nat} (hf:(dz T 0 n).n=s) :
  Bd (setSl m s (fB m s+1)) (setL (setL T 0 n (dz T 0 n)) 1 n (dz T 0 n)):=by
 have e0:=iq h.ok (p:=0) (by omega) hn
 have e1:=iq h.ok (p:=1) (by omega) hn
 have hg0:iK (bX m T) 0 n=some g:=by rw[jA (by omega)];exact hg
 have hg1:iK (bX m T) 1 n=some g:=by rw[jA (by omega),har];exact hg
 have hself:setL T 0 n (dz T 0 n)=T:=by
  have hl0:dw T 0∈T:=h.ok.mem (by omega)
  have h64:=h.ok.l64 (p:=0) (by omega)
  unfold setL dz
  rw[List.getD_eq_getElem?_getD,List.getElem?_eq_getElem (by omega:n<(dw T 0).length),Option.getD_some,List.set_getElem_self]
  unfold dw
  rw[List.getD_eq_getElem?_getD,List.getElem?_eq_getElem (by rw[h.ok.len];omega:0<T.length),Option.getD_some,List.set_getElem_self]
 rw[hself]
 have hE:=qx h.ok (p:=0) (by omega) hn
 have hok:sO (setSl m s (fB m s+1)) T:=h.ok.sps rfl
 refine .of (hok.set (by show 1<m.sp.length;omega) hE) ?_
 rw[←lg hok (by show 1<m.sp.length;omega) hn hE,←e0]
 exact vN (m:=bX m T) (p:=0) (q:=1) (n:=n) (s:=s) (g:=g) h.rt h.co (by rw[e0];exact hk) (by rw[e0];exact hf) (by rw[gJ];omega) (by rw[e1];exact h0) hg0 hg1
theorem Bd.share0 {m:Ma} {T:List (List En)} (h:Bd m T) (hl:m.sp.length=2) {n:Nat} (hn:n<64) (hk:(dz T 0 n).k=0) (h0:(dz T 1 n).k=0):Bd m (setL (setL T 0 n (dz T 0 n)) 1 n (dz T 0 n)):=by
 have hE0:=(bv _).1 (qx h.ok (p:=0) (by omega) hn)
 have hE1:=(bv _).1 (qx h.ok (p:=1) (by omega) hn)
 have hz:∀e:En,e.k=0→((e.k=0∧e.n=0∧e.w=false)∨(e.k=1∧0≤e.n∧e.n<40)∨(e.k=2∧0≤e.n∧e.n<60∧e.w=false))→e=zEn:=by
  rintro⟨a,b,c⟩ h1 h2
  rcases h2 with ⟨a1,a2,a3⟩|h2|h2
  ·simp only at a1 a2 a3;subst a1;subst a2;subst a3;rfl
  ·omega
  ·omega
 have h0':=hz _ hk hE0
 have h1':=hz _ h0 hE1
 have hself:∀p,p<2→dz T p n=zEn→setL T p n zEn=T:=fun p hp he=>by
  have h64:=h.ok.l64 (p:=p) (by omega)
  have hlT:=h.ok.len
  have:(dw T p)[n]'(by omega)=zEn:=by
   unfold dz at he
   rw[List.getD_eq_getElem?_getD,List.getElem?_eq_getElem (by omega:n<(dw T p).length),Option.getD_some] at he
   exact he
  unfold setL
  rw[←this,List.set_getElem_self]
  unfold dw
  rw[List.getD_eq_getElem?_getD,List.getElem?_eq_getElem (by omega:p<T.length),Option.getD_some,List.set_getElem_self]
 rw[h0',hself 0 (by omega) h0',hself 1 (by omega) h1']
 exact h
theorem qy {l r:List Int} (h:∀x∈l,x=0):firstE (l++r)=firstE r:=by
 induction l with
 | nil=>rfl
 | cons a l ih=>
  have h0:=h a List.mem_cons_self
  rw[List.cons_append]
  rw[firstE,h0]
  simp only[if_true,ne_eq,not_true_eq_false,if_false]
  exact ih fun x hx=>h x (List.mem_cons_of_mem _ hx)
theorem EQ {x:Int} {r:List Int} (h:x≠0):firstE (x::r)=x:=by
 rw[firstE]
 simp[h]
theorem BP {m:Ma} {p j:Nat} {s:Sp} {n:Int} (hs:m.sp[p]?=some s) (hn:(aF s.tb)[j]?=some n) (h1:∀t∈m.sp.take p,∀i∈aF t.tb,aZ m t i=0) (h2:∀i∈(aF s.tb).take j,aZ m s i=0) (hne:aZ m s n≠0):iN m=aZ m s n:=by
 unfold iN
 have e1:m.sp=m.sp.take p++s::m.sp.drop (p+1):=by rw[←drop_at hs,List.take_append_drop]
 have e2:aF s.tb=(aF s.tb).take j++n::(aF s.tb).drop (j+1):=by rw[←drop_at hn,List.take_append_drop]
 rw[e1,List.flatMap_append,qy (fun x hx => ?_),List.flatMap_cons,e2,List.map_append,List.append_assoc,qy (fun x hx => ?_),List.map_cons,List.cons_append,EQ hne]
 ·obtain⟨i,hi,rfl⟩:=List.mem_map.1 hx
  exact h2 i hi
 ·obtain⟨t,ht,hx⟩:=List.mem_flatMap.1 hx
  obtain⟨i,hi,rfl⟩:=List.mem_map.1 hx
  exact h1 t ht i hi
theorem AC {m:Ma} (h:∀t∈m.sp,∀i∈aF t.tb,aZ m t i=0):iN m=0:=by
 unfold iN
 rw[←List.append_nil (m.sp.flatMap _),qy (fun x hx => ?_)]
 ·rfl
 ·obtain⟨t,ht,hx⟩:=List.mem_flatMap.1 hx
  obtain⟨i,hi,rfl⟩:=List.mem_map.1 hx
  exact h t ht i hi
theorem GV {m:Ma} {s:Sp} {n:Int} (h:aZ m s n=0):((bT s.tb n).k=2→(bT s.tb n).n<m.sl.length)∧((bT s.tb n).k≠2→(bT s.tb n).n<m.m.fs.length):=by
 unfold aZ at h
 split at h
 ·cases h
 ·simp only at h
  split at h
  ·rename_i h2
   split at h
   ·cases h
   ·rename_i h3
    exact⟨fun _=>by omega,fun h'=>absurd h2 h'⟩
  ·rename_i h2
   split at h
   ·cases h
   ·exact⟨fun h'=>absurd h' h2,fun _=>by omega⟩
def iA (m:Ma) (p:Nat) (l:List Int):List Int:=m.ca.map Cc.k++(m.sp.take p).flatMap (fun s=>jD s.tb (aF s.tb))++l
def fU (m:Ma) (p:Nat) (l:List Int):List Int:=(m.sp.take p).flatMap (fun s=>swapT s.tb (aF s.tb))++l
theorem EW (t:Tb) (l:List Int) (n:Int):jD t (l++[n])=jD t l++(if (bT t n).k=1 then [(bT t n).n] else []):=by
 unfold jD
 rw[List.filter_append,List.map_append]
 congr 1
 by_cases h:(bT t n).k=1
 ·simp[h]
 ·simp[h]
theorem EJ (t:Tb) (l:List Int) (n:Int):swapT t (l++[n])=swapT t l++(if (bT t n).k=1 then [] else [(bT t n).n]):=by
 unfold swapT
 rw[List.filter_append,List.map_append]
 congr 1
 by_cases h:(bT t n).k=1
 ·simp[h]
 ·simp[h]
theorem CB {m:Ma} {p:Nat} {s:Sp} (hs:m.sp[p]?=some s):iA m p (jD s.tb (aF s.tb))=iA m (p+1) []:=by
 unfold iA
 rw[take_at hs,List.flatMap_append,List.append_nil,List.append_assoc]
 simp
theorem AP {m:Ma} {p:Nat} {s:Sp} (hs:m.sp[p]?=some s):fU m p (swapT s.tb (aF s.tb))=fU m (p+1) []:=by
 unfold fU
 rw[take_at hs,List.flatMap_append,List.append_nil]
 simp
theorem FE (m:Ma):iA m m.sp.length []=lu m:=by unfold iA lu;rw[List.take_length,List.append_nil]
theorem Cr (m:Ma):fU m m.sp.length []=kI m:=by unfold fU kI;rw[List.take_length,List.append_nil]
theorem CJ (m:Ma) (p:Nat) (l:List Int) (k:Int):iA m p (l++[k])=iA m p l++[k]:=by unfold iA;rw[List.append_assoc,List.append_assoc,List.append_assoc]
theorem Az (m:Ma) (p:Nat) (l:List Int) (k:Int):fU m p (l++[k])=fU m p l++[k]:=by unfold fU;rw[List.append_assoc]
theorem sU (t:Tb) (l:List Int):(jD t l).length≤l.length:=by unfold jD;rw[List.length_map];exact List.length_filter_le _ _
theorem yE (t:Tb) (l:List Int):(swapT t l).length≤l.length:=by unfold swapT;rw[List.length_map];exact List.length_filter_le _ _
theorem flat_len {α:Type} (g:α→List Int) (c:Nat) (h:∀x,(g x).length≤c):∀l:List α,(l.flatMap g).length≤c*l.length
 | []=>by simp
 | x::l=>by
  have h1:=flat_len g c h l
  have h2:=h x
  rw[List.flatMap_cons,List.length_append,List.length_cons,Nat.mul_succ]
  omega
theorem mU (t:Tb):(aF t).length≤64:=qP t 64
theorem Ga (m:Ma) (p:Nat) (l:List Int):(iA m p l).length≤m.ca.length+64*m.sp.length+l.length:=by
 unfold iA
 have h1:=flat_len (fun s:Sp=>jD s.tb (aF s.tb)) 64 (fun s=>Nat.le_trans (sU _ _) (mU _)) (m.sp.take p)
 have h2:(m.sp.take p).length≤m.sp.length:=by rw[List.length_take];omega
 simp only[List.length_append,List.length_map]
 omega
theorem EP {m:Ma} (h:sD m) (p:Nat) (l:List Int) (K:Int):cnt (iA m p l) K≤1+64*m.sp.length+l.length:=by
 unfold iA
 rw[rM,rM]
 have h1:=flat_len (fun s:Sp=>jD s.tb (aF s.tb)) 64 (fun s=>Nat.le_trans (sU _ _) (mU _)) (m.sp.take p)
 have h2:(m.sp.take p).length≤m.sp.length:=by rw[List.length_take];omega
 have h3:cnt (m.ca.map Cc.k) K=qM m K:=by
  unfold cnt qM
  rw[List.countP_map];rfl
 have h4:=Ju h K
 have h5:=yY ((m.sp.take p).flatMap fun s=>jD s.tb (aF s.tb)) K
 have h6:=yY l K
 omega
theorem Ca (m:Ma) (p:Nat) (l:List Int):(fU m p l).length≤64*m.sp.length+l.length:=by
 unfold fU
 have h1:=flat_len (fun s:Sp=>swapT s.tb (aF s.tb)) 64 (fun s=>Nat.le_trans (yE _ _) (mU _)) (m.sp.take p)
 have h2:(m.sp.take p).length≤m.sp.length:=by rw[List.length_take];omega
 simp only[List.length_append]
 omega
theorem DK (w:World) (c1 c2:Array Value) (T1 T2:TypeId):Below w.heap.size w ((w.alloc (.cells c1 T1)).alloc (.cells c2 T2)).drew∧aB ((w.alloc (.cells c1 T1)).alloc (.cells c2 T2)).drew w.heap.size c1 T1∧aB ((w.alloc (.cells c1 T1)).alloc (.cells c2 T2)).drew (w.heap.size+1) c2 T2:=by
 have e:(w.alloc (.cells c1 T1)).heap.size=w.heap.size+1:=Array.size_push _
 have h1:Below w.heap.size w ((w.alloc (.cells c1 T1)).alloc (.cells c2 T2)):=((Below.refl _ _).alloc (Nat.le_refl _) _).alloc (by omega) _
 have h2:aB ((w.alloc (.cells c1 T1)).alloc (.cells c2 T2)) w.heap.size c1 T1:=(aB.new w c1 T1).ext ((Below.refl _ _).alloc (Nat.le_refl _) _)
 have h3:aB ((w.alloc (.cells c1 T1)).alloc (.cells c2 T2)) (w.heap.size+1) c2 T2:=by rw[←e];exact aB.new _ _ _
 exact⟨⟨h1.os,h1.tape,h1.output,h1.size,h1.block⟩,h2,h3⟩
theorem int_one:(Try.prog.info? 3).map (·.size)=some 1:=by kernel_rfl
theorem int_inf:(Try.prog.info? 3).map (fun i=>(i.zero,i.size,i.bytes))=some (some (.int .i64 0),1,8):=by kernel_rfl
theorem wR {P:Program} {ρ:Operand→Value} {o:Oper} {w:World} {t e:TypeId} {x y:Operand} {b n c i:Nat} {k:IntKind} (ho:o.op = .indexAddr t x y) (hx:ρ x = .slice (some ⟨b,0,none⟩) n c) (hy:ρ y = .int k (i:Int)) (hi:i<n)
  (hu:P.underlying t=some (.slice e)) (hs:(P.info? e).map (·.size)=some 1):(execOp ρ o).run P w = .ok (.value (.pointer (some ⟨b,i,none⟩))) w:=by
 have:=aR (w:=w) ho hx hy hi hu hs
 rw[this]
 simp
def xB (m:Ma) (i:Nat):Bool:=decide ((jI m i).r=cnt (lu m) i)&&(decide ((jI m i).f<0)||m.ca.any fun c=>decide (c.k=i))
theorem Ae (m:Ma):countB m=((List.range m.m.fs.length).all (xB m)&&decide (m.sl=gF m.sl.length (kI m))):=rfl
theorem AV {m:Ma} (h:countB m=true) (k:Nat) (hk:k<m.m.fs.length):xB m k=true:=by
 rw[Ae,Bool.and_eq_true,List.all_eq_true] at h
 exact h.1 k (List.mem_range.2 hk)
theorem qg (H:MH) (w:World) (h:qV w H) :
  Calls Try.prog 10 #[.agg (bM H)] w fun r w'=>r = .returned (.int .i64 (fP H.ma))∧Below w.heap.size w w':=by
 have hmx:H.m.fs.length*8≤281474976710656∧H.sl.length*8≤281474976710656∨¬dZ H.ma=0:=by
  by_cases e:dZ H.ma=0
  ·have hp:=(nU.1 e).1
   have h1:=((dR _).1 hp.fr).1
   have h2:=gP hp.sl
   have h1' : H.m.fs.length≤40:=h1
   have h2' : H.sl.length≤60:=h2
   exact .inl ⟨by omega,by omega⟩
  ·exact .inr e
 go_enter Try.func10,Try.ntmps10
 go_upto_region 1 with (fail)
 refine eP (fun W=>Code.wp _ _ _ _ W) fun w1 hb1 bx1 hs1 => ?_
 have h1:=h.below hb1
 have bx:aB w1 w.heap.size (bM H) 40:=bx1
 clear bx1 hs1
 go_wp2_with fail
 refine (Fv H w.heap.size _ bx h1).mono ?_
 rintro r w2 ⟨rfl,hb2⟩
 have hbr2:=ae hb1 hb2
 have bx2:=bx.ext hb2
 clear bx h1 hb1 hb2
 by_cases e1:dZ H.ma=0
 rotate_left
 ·have hq:Hid (fP H.ma=dZ H.ma):=Lib.hid (by unfold fP;rw[if_pos e1])
  generalize dZ H.ma=E at *
  go_wp2
  go_ret
  rw[hq.out]
  exact⟨rfl,hbr2⟩
 rw[e1]
 go_wp2_with fail
 refine (CS H w.heap.size _ bx2 (h.below hbr2)).mono ?_
 rintro r w3 ⟨rfl,hb3⟩
 have hbr3:=ae hbr2 hb3
 have bx3:=bx2.ext hb3
 clear bx2 hbr2 hb3
 by_cases e2:cachedE H.ma=0
 rotate_left
 ·have hq:Hid (fP H.ma=cachedE H.ma):=Lib.hid (by unfold fP;rw[if_neg (by rw[e1];simp),if_pos e2])
  generalize cachedE H.ma=E at *
  go_wp2
  go_ret
  rw[hq.out]
  exact⟨rfl,hbr3⟩
 rw[e2]
 have hPt:=(nU.1 e1).1
 have n1:H.m.fs.length≤40:=((dR _).1 hPt.fr).1
 have n2:H.sl.length≤60:=gP hPt.sl
 have n3:H.sp.length≤4:=by have:=hPt.spl;rw[nK] at this;exact this
 have hPt':=Lib.hid hPt
 have hcaL:=Lib.hid (sM.1 e2)
 have hwr:Hid (fP H.ma=if iN H.ma≠0 then iN H.ma else if countB H.ma=true then 0 else 7):=Lib.hid (by unfold fP;rw[if_neg (by rw[e1];simp),if_neg (by rw[e2];simp)])
 clear e1 e2 hPt hmx
 go_upto_region 7 with (fail)
 have hcb:=bx3.cell
 unfold bM at hcb
 have hcb2:=fun ob=>(bx3.ext ((Below.refl _ _).alloc (Nat.le_refl _) ob)).cell
 unfold bM at hcb2
 have hmk1:=run_make_row' (P:=Try.prog) 28 3 (.int .i64 0) 8 Try.underlying28 int_inf rfl .i64 .i64 H.m.fs.length (by omega) (by omega)
 have hmk2:=run_make_row' (P:=Try.prog) 28 3 (.int .i64 0) 8 Try.underlying28 int_inf rfl .i64 .i64 H.sl.length (by omega) (by omega)
 go_cut [5,6] (fun s5 s6 wx => ∃gh gs,s5 = .slice (some ⟨gh,0,none⟩) H.m.fs.length H.m.fs.length∧s6 = .slice (some ⟨gs,0,none⟩) H.sl.length H.sl.length∧gh≠gs∧w3.heap.size≤gh∧w3.heap.size≤gs∧Below w3.heap.size w3 wx∧aB wx gh (madeCells #[.int .i64 0] H.m.fs.length) 3∧aB wx gs (madeCells #[.int .i64 0] H.sl.length) 3)
 case first=>
  go_region
  all_goals (go_wp2_with fail;go_meet)
  ·obtain⟨z1,z2,z3⟩:=DK w3 (madeCells #[.int .i64 0] H.m.fs.length) (madeCells #[.int .i64 0] H.sl.length) 3 3
   exact⟨_,_,rfl,rfl,by omega,by omega,by omega,z1,z2,z3⟩
  ·obtain⟨z1,z2,z3⟩:=DK w3 (madeCells #[.int .i64 0] H.sl.length) (madeCells #[.int .i64 0] H.m.fs.length) 3 3
   exact⟨_,_,rfl,rfl,by omega,by omega,by omega,z1,z3,z2⟩
 case rest=>
  obtain⟨gh,gs,rfl,rfl,hne,hgh,hgs,hb4,hIh,hIs⟩:=hcut
  have hbr4:=ae hbr3 hb4
  have bx4:=bx3.ext hb4
  have hwh:w.heap.size≤gh:=Nat.le_trans hbr3.size hgh
  have hws:w.heap.size≤gs:=Nat.le_trans hbr3.size hgs
  have hbh:w.heap.size≠gh:=by have:=bx3.lt;omega
  have hbs:w.heap.size≠gs:=by have:=bx3.lt;omega
  have hIh4:IB wc gh (gF H.m.fs.length ((H.ca.take 0).map Cc.k)):=by
   rw[List.take_zero,List.map_nil,Bv];unfold IB;rw[←yO];exact hIh
  have hIs4:IB wc gs (gF H.sl.length []):=by
   rw[Bv];unfold IB;rw[←yO];exact hIs
  clear hcb hcb2 hmk1 hmk2 hIh hIs hb4 bx3 hbr3 hgh hgs
  have hcb:=bx4.cell
  unfold bM at hcb
  go_upto_region 9 with (fail)
  clear hcb
  have hcl:=h.ca.le
  have hcm:=h.ca.mx
  unfold maxLen at hcm
  go_loopw [37] (fun i wr => ∃(k:Nat),k≤H.ca.length∧i = .int .i64 k∧Below w.heap.size w wr∧aB wr w.heap.size (bM H) 40∧IB wr gh (gF H.m.fs.length ((H.ca.take k).map Cc.k))∧IB wr gs (gF H.sl.length [])) (fun i _=>H.ca.length-(intOf i).toNat)
  case atStart=>exact⟨0,Nat.zero_le _,rfl,hbr4,bx4,hIh4,hIs4⟩
  case round=>
   clear hbr4 bx4 hIh4 hIs4
   obtain⟨k,hk,rfl,hbr,bx,hIh,hIs⟩:=hrel
   by_cases hkl:k<H.ca.length
   ·obtain⟨bc,oc,hac,hrd⟩:=fE ku (by decide) (h.below hbr).ca.rd k hkl
    have hki:(k:Int)<(H.ca.length:Int):=by omega
    have hclt:0≤H.ca[k].k∧H.ca[k].k<H.m.fs.length:=hcaL.out.lt _ (List.getElem_mem hkl)
    have htk:Hid ((H.ca.take (k+1)).map Cc.k=(H.ca.take k).map Cc.k++[H.ca[k].k]):=Lib.hid (by rw[take_at (List.getElem?_eq_getElem hkl),List.map_append];rfl)
    have hll:((H.ca.take k).map Cc.k).length≤k:=by rw[List.length_map,List.length_take];omega
    generalize H.ca[k]=c at *
    obtain⟨K,hcK⟩:∃K:Nat,c.k=K:=⟨c.k.toNat,by omega⟩
    have hKl:K<H.m.fs.length:=by omega
    rw[hcK] at htk
    rw[hac]
    generalize (H.ca.take k).map Cc.k=L at *
    go_wp2_with (first | (refine ak _ _ rfl bc (oc+k*3) rfl rfl _ hrd _ Try.underlying85 rfl cached_size ?_) | (refine aD rfl _ _ _ rfl (sN c) rfl rfl rfl cached_size (nJ c) ?_))
    intro w5 hb5 cx
    have hbr5:=ae hbr hb5
    have bx5:=bx.ext hb5
    have hIh5:IB w5 gh (gF H.m.fs.length L):=hIh.ext hb5
    have hIs5:IB w5 gs (gF H.sl.length []):=hIs.ext hb5
    clear hbr bx hIh hIs hrd hb5
    have hcc:=cx.cell
    unfold sN at hcc
    rw[hcK] at hcc
    have hce:=hIh5.cell (jE H.m.fs.length L K hKl)
    have hcl2:=yY L K
    have hw1:IntKind.i64.wrap ((cnt L K:Int)+1)=(cnt L K:Int)+1:=IntWalk.i64_in _ (by omega)
    have hKi:(K:Int)<(H.m.fs.length:Int):=by omega
    go_wp2_with (refine ay rfl _ _ _ rfl gh K _ [.int .i64 ((cnt L K:Int)+1)] rfl rfl rfl _ _ hIh5 (by simp[iH];omega) int_one (fun u hu=>by cases List.mem_singleton.1 hu;rfl) ?_)
    intro w6 hb6 hg6
    rw[IB.set (by rw[iH];exact hKl),wT _ _ _ hKl,←htk.out] at hb6
    have hbr6:=hbr5.grown hg6 hbr5.size (fun k hk=>by cases hk;exact hwh)
    have bx6:=bx5.grown hg6 (fun e=>hbh (Option.some.inj e).symm)
    have hIs6:IB w6 gs (gF H.sl.length []):=aB.grown hIs5 hg6 (fun e=>hne (Option.some.inj e))
    clear hbr5 bx5 hIs5 hIh5 hcc hce cx hg6 hw1
    go_wp2
    go_roundw
    case rel=>exact⟨k+1,by omega,by go_num,hbr6,bx6,hb6,hIs6⟩
    case measure=>simp[intOf];omega
   ·have hki:¬(k:Int)<(H.ca.length:Int):=by omega
    rw[List.take_of_length_le (by omega)] at hIh
    have hIh0:IB wr gh (gF H.m.fs.length (iA H.ma 0 [])):=by
     have e:iA H.ma 0 []=H.ca.map Cc.k:=by
      show H.ca.map Cc.k++[]++[]=_
      rw[List.append_nil,List.append_nil]
     rw[e];exact hIh
    have hIs0:IB wr gs (gF H.sl.length (fU H.ma 0 [])):=hIs
    clear hIh hIs
    have hcb:=bx.cell
    unfold bM at hcb
    go_upto_region 14 with (fail)
    clear hcb
    go_loopw [52] (fun i wr => ∃(p:Nat),p≤H.sp.length∧i = .int .i64 p∧Below w.heap.size w wr∧aB wr w.heap.size (bM H) 40∧IB wr gh (gF H.m.fs.length (iA H.ma p []))∧IB wr gs (gF H.sl.length (fU H.ma p []))∧Hid (∀t∈H.ma.sp.take p,∀i∈aF t.tb,aZ H.ma t i=0)) (fun i _=>H.sp.length-(intOf i).toNat)
    case atStart=>exact⟨0,Nat.zero_le _,rfl,hbr,bx,hIh0,hIs0,Lib.hid fun t ht=>by simp at ht⟩
    case round=>
     clear hbr bx hIh0 hIs0
     obtain⟨p,hp,rfl,hbr,bx,hIh,hIs,hz⟩:=hrel
     by_cases hpl:p<H.sp.length
     ·obtain⟨bs,os,P,hap,hP,hrd⟩:=lC (h.below hbr).sp.rd p hpl
      have hgood:=nz (h.below hbr) hP
      have hpi:(p:Int)<(H.sp.length:Int):=by omega
      have hsP:H.ma.sp[p]?=some P.sp:=by show (H.sp.map PS.sp)[p]?=_;rw[List.getElem?_map,hP];rfl
      have harE:(aT P.ar).1=0:=hPt'.out.ar P.sp (List.mem_of_getElem? hsP)
      have htbE:bB P.tb=0:=hPt'.out.tb P.sp (List.mem_of_getElem? hsP)
      have hsP':=Lib.hid hsP
      have hPq:=Lib.hid hP
      have hcb:=bx.cell
      unfold bM at hcb
      rw[hap] at hcb
      clear hsP hP
      go_wp2_with (refine ak _ _ rfl bs (os+p*10+2) rfl rfl _ (mP hrd 2 8) _ Try.underlying63 tab_agg tab_size ?_)
      refine (mX P.tb (iG P.ts) _ hgood.tb).mono ?_
      rintro r w5 ⟨v5,rfl,ho5,hb5⟩
      obtain⟨a5,c5,rfl,hle5,hmx5,_,hr5⟩:=ho5.rd
      have hlt5:gh<wr.heap.size∧gs<wr.heap.size:=⟨aB.lt hIh,aB.lt hIs⟩
      have hbr5:=ae hbr hb5
      have bx5:=bx.ext hb5
      have hIh5:IB w5 gh (gF H.m.fs.length (iA H.ma p (jD P.tb ((aF P.tb).take 0)))):=hIh.ext hb5
      have hIs5:IB w5 gs (gF H.sl.length (fU H.ma p (swapT P.tb ((aF P.tb).take 0)))):=hIs.ext hb5
      have hrd5:=hrd.below hb5
      have hg5:=hgood.below hb5
      have hwrs:=Lib.hid hlt5
      clear hcb hbr bx hIh hIs hrd hgood hb5 hr5
      have hpin:=Lib.hid (BG P.tb)
      have hpl64:=mU P.tb
      go_upto_region 18 with (fail)
      go_loopw [65] (fun i wr' => ∃(j:Nat),j≤(aF P.tb).length∧i = .int .i64 j∧Below w.heap.size w wr'∧aB wr' w.heap.size (bM H) 40∧IB wr' gh (gF H.m.fs.length (iA H.ma p (jD P.tb ((aF P.tb).take j))))∧IB wr' gs (gF H.sl.length (fU H.ma p (swapT P.tb ((aF P.tb).take j))))∧Own wr' wr.heap.size 3 1 (.slice a5 (aF P.tb).length c5) (aF P.tb).length ((aF P.tb).map dE)∧bZ wr' (some ⟨bs,os+p*10,none⟩) (kS P)∧P.good wr'∧Hid (∀i∈(aF P.tb).take j,aZ H.ma P.sp i=0)) (fun i _=>(aF P.tb).length-(intOf i).toNat)
      case atStart=>exact⟨0,Nat.zero_le _,rfl,hbr5,bx5,hIh5,hIs5,ho5,hrd5,hg5,Lib.hid fun i hi=>by simp at hi⟩
      case round=>
       clear hbr5 bx5 hIh5 hIs5 ho5 hrd5 hg5
       obtain⟨j,hj,rfl,hbr,bx,hIh,hIs,ho,hrd,hgood,hz2⟩:=hrel
       obtain⟨hgl,hsl⟩:=hwrs.out
       by_cases hjl:j<(aF P.tb).length
       ·have hji:(j:Int)<((aF P.tb).length:Int):=by omega
        obtain⟨_,_,e9,_,_,_,hrL⟩:=ho.rd
        cases e9
        have hnj:(aF P.tb)[j]?=some (aF P.tb)[j]:=List.getElem?_eq_getElem hjl
        have hnb:=hpin.out _ (List.getElem_mem hjl)
        have hnk:(bT P.tb (aF P.tb)[j]).k≠0:=(gH.1 (List.getElem_mem hjl)).2
        obtain⟨bp,op,hpa,hcn⟩:=jo hrL j hjl
        generalize hN:(aF P.tb)[j]=n at *
        have htk:Hid ((aF P.tb).take (j+1)=(aF P.tb).take j++[n]):=Lib.hid (take_at hnj)
        have hnj':=Lib.hid hnj
        have hpaQ:=Lib.hid hpa
        have hent:=(bv _).1 (kD htbE n)
        rw[hpa]
        clear hnj hN hrL
        go_wp2_with fail
        refine (CR H P n w.heap.size bs (os+p*10) _ bx (h.below hbr) hrd hgood harE htbE hnb).mono ?_
        rintro r w6 ⟨rfl,hb6⟩
        have hbr6:=ae hbr hb6
        have bx6:=bx.ext hb6
        have hIh6:=aB.ext hIh hb6
        have hIs6:=aB.ext hIs hb6
        have ho6:=ho.below hb6
        have hrd6:=hrd.below hb6
        have hg6:=hgood.below hb6
        clear hbr bx hIh hIs ho hrd hgood hb6 hcn
        by_cases hE:aZ H.ma P.sp n=0
        rotate_left
        ·have hq:Hid (fP H.ma=aZ H.ma P.sp n):=Lib.hid (by
          have:=BP hsP'.out hnj'.out hz.out hz2.out hE
          rw[hwr.out,this,if_pos hE])
         generalize aZ H.ma P.sp n=E at *
         go_wp2
         go_ret
         rw[hq.out]
         exact⟨rfl,hbr6⟩
        have hlt:=GV hE
        have hz3:Hid (∀i∈(aF P.tb).take (j+1),aZ H.ma P.sp i=0):=Lib.hid fun i hi=>by
         rw[htk.out] at hi
         rcases List.mem_append.1 hi with hi|hi
         ·exact hz2.out i hi
         ·rw[List.mem_singleton.1 hi];exact hE
        rw[hE]
        clear hz2 hE
        go_wp2_with (refine ak _ _ rfl bs (os+p*10+2) rfl rfl _ (mP hrd6 2 8) _ Try.underlying63 tab_agg tab_size ?_)
        refine (xm P.tb (iG P.ts) n _ hg6.tb).mono ?_
        rintro r w7 ⟨rfl,hb7⟩
        have hlt2:((bT P.tb n).k=2→(bT P.tb n).n<H.sl.length)∧((bT P.tb n).k≠2→(bT P.tb n).n<H.m.fs.length):=hlt
        have hpS:jD P.tb ((aF P.tb).take (j+1))=jD P.tb ((aF P.tb).take j)++(if (bT P.tb n).k=1 then [(bT P.tb n).n] else []):=by rw[htk.out,EW]
        have hsS:swapT P.tb ((aF P.tb).take (j+1))=swapT P.tb ((aF P.tb).take j)++(if (bT P.tb n).k=1 then [] else [(bT P.tb n).n]):=by rw[htk.out,EJ]
        have hl1:=Ga H.ma p (jD P.tb ((aF P.tb).take j))
        have hl1b:=sU P.tb ((aF P.tb).take j)
        have hl2:=Ca H.ma p (swapT P.tb ((aF P.tb).take j))
        have hl2b:=yE P.tb ((aF P.tb).take j)
        have hl3:((aF P.tb).take j).length≤64:=by rw[List.length_take];omega
        have hl4:H.ma.ca.length=H.ca.length:=rfl
        have hl5:H.ma.sp.length=H.sp.length:=nK H
        generalize bT P.tb n=e at *
        generalize jD P.tb ((aF P.tb).take j)=L1 at *
        generalize swapT P.tb ((aF P.tb).take j)=L2 at *
        have hpS':=Lib.hid hpS
        have hsS':=Lib.hid hsS
        clear hlt hpS hsS
        have hbr7:=ae hbr6 hb7
        have bx7:=bx6.ext hb7
        have hIh7:=aB.ext hIh6 hb7
        have hIs7:=aB.ext hIs6 hb7
        have ho7:=ho6.below hb7
        have hrd7:=hrd6.below hb7
        have hg7:=hg6.below hb7
        clear hbr6 bx6 hIh6 hIs6 ho6 hrd6 hg6 hb7
        go_wp2_with (refine aD rfl _ _ _ rfl (fA e) rfl rfl rfl entry_size (by simp[fA,Value.oneCell']) ?_)
        intro w8 hb8 ex
        have hbr8:=ae hbr7 hb8
        have bx8:=bx7.ext hb8
        have hIh8:IB w8 gh _:=aB.ext hIh7 hb8
        have hIs8:IB w8 gs _:=aB.ext hIs7 hb8
        have ho8:=ho7.below hb8
        have hrd8:=hrd7.below hb8
        have hg8:=hg7.below hb8
        clear hbr7 bx7 hIh7 hIs7 ho7 hrd7 hg7 hb8
        have hce:=ex.cell
        unfold fA at hce
        by_cases hk1:e.k=1
        ·obtain⟨K,hK⟩:∃K:Nat,e.n=K:=⟨e.n.toNat,by omega⟩
         have hKl:K<H.m.fs.length:=by have:=hlt2.2 (by omega);omega
         have hpS2:=hpS'.out
         have hsS2:=hsS'.out
         rw[if_pos hk1,hK] at hpS2
         rw[if_pos hk1,List.append_nil] at hsS2
         rw[hk1,hK] at hce
         have hcx:=hIh8.cell (jE H.m.fs.length (iA H.ma p L1) K hKl)
         have hcl2:=EP hcaL.out p L1 K
         have hw1:IntKind.i64.wrap ((cnt (iA H.ma p L1) K:Int)+1)=(cnt (iA H.ma p L1) K:Int)+1:=IntWalk.i64_in _ (by omega)
         have hKi:(K:Int)<(H.m.fs.length:Int):=by omega
         have hpS3:=Lib.hid hpS2
         have hsS3:=Lib.hid hsS2
         clear hpS2 hsS2 hlt2 hk1 hnk hent hK
         go_wp2_with (refine ay rfl _ _ _ rfl gh K _ [.int .i64 ((cnt (iA H.ma p L1) K:Int)+1)] rfl rfl rfl _ _ hIh8 (by simp[iH];omega) int_one (fun u hu=>by cases List.mem_singleton.1 hu;rfl) ?_)
         intro w9 hb9 hg9
         rw[IB.set (by rw[iH];exact hKl),wT _ _ _ hKl,←CJ,←hpS3.out] at hb9
         rw[←hsS3.out] at hIs8
         have hbr9:=hbr8.grown hg9 hbr8.size (fun k hk=>by cases hk;exact hwh)
         have bx9:=bx8.grown hg9 (fun e=>hbh (Option.some.inj e).symm)
         have hIs9:IB w9 gs _:=aB.grown hIs8 hg9 (fun e=>hne (Option.some.inj e))
         have hr9:qV w9 H:=h.below hbr9
         obtain⟨bs',os',P',hap',hP',hrd9'⟩:=lC hr9.sp.rd p hpl
         have hPP:P' = P:=by
          have h2:H.ma.sp[p]?=some P.sp:=hsP'.out
          rw[hPq.out] at hP'
          exact (Option.some.inj hP').symm
         subst hPP
         rw[hap] at hap'
         cases hap'
         have hg9':=hr9.ps P' (List.mem_of_getElem? hP')
         have ho9:=ho8.grown hg9 (fun g hv e=>by
          have:=ho8.ge g hv
          have e2:=Option.some.inj e
          omega)
         clear hbr8 bx8 hIs8 hIh8 hce ex hg9 hw1 hcx ho8 hrd8 hg8 hr9
         go_wp2
         go_roundw
         case rel=>exact⟨j+1,by omega,by go_num,hbr9,bx9,hb9,hIs9,by rw[←hpaQ.out];exact ho9,hrd9',hg9',hz3⟩
         case measure=>simp[intOf];omega
        ·obtain⟨K,hK⟩:∃K:Nat,e.n=K:=⟨e.n.toNat,by omega⟩
         have hk2:e.k=2:=by omega
         have hKl:K<H.sl.length:=by have:=hlt2.1 hk2;omega
         have hpS2:=hpS'.out
         have hsS2:=hsS'.out
         rw[if_neg hk1,List.append_nil] at hpS2
         rw[if_neg hk1,hK] at hsS2
         rw[hk2,hK] at hce
         have hcx:=hIs8.cell (jE H.sl.length (fU H.ma p L2) K hKl)
         have hcl2:=yY (fU H.ma p L2) K
         have hw1:IntKind.i64.wrap ((cnt (fU H.ma p L2) K:Int)+1)=(cnt (fU H.ma p L2) K:Int)+1:=IntWalk.i64_in _ (by omega)
         have hKi:(K:Int)<(H.sl.length:Int):=by omega
         have hpS3:=Lib.hid hpS2
         have hsS3:=Lib.hid hsS2
         clear hpS2 hsS2 hlt2 hk1 hk2 hnk hent hK
         go_wp2_with (refine ay rfl _ _ _ rfl gs K _ [.int .i64 ((cnt (fU H.ma p L2) K:Int)+1)] rfl rfl rfl _ _ hIs8 (by simp[iH];omega) int_one (fun u hu=>by cases List.mem_singleton.1 hu;rfl) ?_)
         intro w9 hb9 hg9
         rw[IB.set (by rw[iH];exact hKl),wT _ _ _ hKl,←Az,←hsS3.out] at hb9
         rw[←hpS3.out] at hIh8
         have hbr9:=hbr8.grown hg9 hbr8.size (fun k hk=>by cases hk;exact hws)
         have bx9:=bx8.grown hg9 (fun e=>hbs (Option.some.inj e).symm)
         have hIh9:IB w9 gh _:=aB.grown hIh8 hg9 (fun e=>hne (Option.some.inj e).symm)
         have hr9:qV w9 H:=h.below hbr9
         obtain⟨bs',os',P',hap',hP',hrd9'⟩:=lC hr9.sp.rd p hpl
         have hPP:P' = P:=by
          have h2:H.ma.sp[p]?=some P.sp:=hsP'.out
          rw[hPq.out] at hP'
          exact (Option.some.inj hP').symm
         subst hPP
         rw[hap] at hap'
         cases hap'
         have hg9':=hr9.ps P' (List.mem_of_getElem? hP')
         have ho9:=ho8.grown hg9 (fun g hv e=>by
          have:=ho8.ge g hv
          have e2:=Option.some.inj e
          omega)
         clear hbr8 bx8 hIs8 hIh8 hce ex hg9 hw1 hcx ho8 hrd8 hg8 hr9
         go_wp2
         go_roundw
         case rel=>exact⟨j+1,by omega,by go_num,hbr9,bx9,hIh9,hb9,by rw[←hpaQ.out];exact ho9,hrd9',hg9',hz3⟩
         case measure=>simp[intOf];omega
       ·have hji:¬(j:Int)<((aF P.tb).length:Int):=by omega
        rw[List.take_of_length_le (by omega)] at hIh hIs hz2
        have hIh2:IB wr gh (gF H.m.fs.length (iA H.ma (p+1) [])):=by rw[←CB hsP'.out];exact hIh
        have hIs2:IB wr gs (gF H.sl.length (fU H.ma (p+1) [])):=by rw[←AP hsP'.out];exact hIs
        have hz3:Hid (∀t∈H.ma.sp.take (p+1),∀i∈aF t.tb,aZ H.ma t i=0):=Lib.hid fun t ht i hi=>by
         rw[take_at hsP'.out] at ht
         rcases List.mem_append.1 ht with ht|ht
         ·exact hz.out t ht i hi
         ·rw[List.mem_singleton.1 ht] at hi ⊢
          exact hz2.out i hi
        clear hIh hIs ho hrd hgood hz hz2
        go_wp2
        go_roundw
        case rel=>
         refine⟨_,_,_,_,_,_,.int .i64 ((p:Int)+1),⟨p+1,by omega,?_,hIh2,hIs2,hz3⟩,rfl,rfl,rfl,rfl,rfl,rfl,rfl⟩
         go_num
        case measure=>simp[intOf];omega
     ·have hpi:¬(p:Int)<(H.sp.length:Int):=by omega
      have hpe:p=H.ma.sp.length:=by rw[nK];omega
      rw[hpe,FE] at hIh
      rw[hpe,Cr] at hIs
      rw[hpe,List.take_length] at hz
      have hwr2:Hid (fP H.ma=if countB H.ma=true then 0 else 7):=Lib.hid (by rw[hwr.out,if_neg (by rw[AC hz.out];simp)])
      clear hz hwr hpe
      have hcb:=bx.cell
      unfold bM at hcb
      go_upto_region 30 with (fail)
      clear hcb
      go_loopw [104] (fun i wr => ∃(k:Nat),k≤H.m.fs.length∧i = .int .i64 k∧Below w.heap.size w wr∧aB wr w.heap.size (bM H) 40∧IB wr gh (gF H.m.fs.length (lu H.ma))∧IB wr gs (gF H.sl.length (kI H.ma))∧Hid (∀i,i<k→xB H.ma i=true)) (fun i _=>H.m.fs.length-(intOf i).toNat)
      case atStart=>exact⟨0,Nat.zero_le _,rfl,hbr,bx,hIh,hIs,Lib.hid fun i hi=>absurd hi (Nat.not_lt_zero _)⟩
      case round=>
       clear hbr bx hIh hIs
       obtain⟨k,hk,rfl,hbr,bx,hIh,hIs,hz3⟩:=hrel
       by_cases hkl:k<H.m.fs.length
       ·obtain⟨bg,og,haf,hrd⟩:=fE eu (by decide) (h.below hbr).fr.rd k hkl
        have hki:(k:Int)<(H.m.fs.length:Int):=by omega
        have hxf:H.m.fs[k]=bn H.ma k:=by
         have:=zB (m:=H.ma) (f:=k) hkl
         have h2:H.m.fs[k]?=some (bn H.ma k):=this
         rw[List.getElem?_eq_getElem hkl] at h2
         exact Option.some.inj h2
        rw[hxf] at hrd
        have hcd:Hid (xB H.ma k=(decide ((bn H.ma k).r=cnt (lu H.ma) k)&&(decide ((bn H.ma k).f<0)||H.ca.any (isK (k:Int))))):=Lib.hid rfl
        generalize bn H.ma k=x at *
        rw[haf]
        clear hxf
        obtain⟨gi,hgi⟩:∃g,g=wr.heap.size:=⟨_,rfl⟩
        go_upto_region 31 with (fail)
        have hgl:gh<wr.heap.size∧gs<wr.heap.size:=⟨aB.lt hIh,aB.lt hIs⟩
        have hbl:=bx.lt
        have hbA:Below wr.heap.size wr ((wr.alloc (.cells #[.int .i64 0] 3)).alloc (.cells #[.int .u8 0,.int .u8 0,.int .u8 0,.int .u8 0,.int .u8 0,.int .u8 0,.int .u8 0,.int .u8 0,.int .i64 0,.bool false,.bool false,.int .i64 0,.int .i64 0] 59)):=((Below.refl _ _).alloc (Nat.le_refl _) _).alloc (by rw[show (wr.alloc (.cells #[.int .i64 0] 3)).heap.size=wr.heap.size+1 from Array.size_push _];omega) _
        have e1:(wr.alloc (.cells #[.int .i64 0] 3)).heap.size=wr.heap.size+1:=Array.size_push _
        have hB1:aB ((wr.alloc (.cells #[.int .i64 0] 3)).alloc (.cells #[.int .u8 0,.int .u8 0,.int .u8 0,.int .u8 0,.int .u8 0,.int .u8 0,.int .u8 0,.int .u8 0,.int .i64 0,.bool false,.bool false,.int .i64 0,.int .i64 0] 59)) wr.heap.size #[.int .i64 0] 3:=(aB.new wr _ _).ext ((Below.refl _ _).alloc (Nat.le_refl _) _)
        have hB2:aB ((wr.alloc (.cells #[.int .i64 0] 3)).alloc (.cells #[.int .u8 0,.int .u8 0,.int .u8 0,.int .u8 0,.int .u8 0,.int .u8 0,.int .u8 0,.int .u8 0,.int .i64 0,.bool false,.bool false,.int .i64 0,.int .i64 0] 59)) (wr.heap.size+1) #[.int .u8 0,.int .u8 0,.int .u8 0,.int .u8 0,.int .u8 0,.int .u8 0,.int .u8 0,.int .u8 0,.int .i64 0,.bool false,.bool false,.int .i64 0,.int .i64 0] 59:=by rw[←e1];exact aB.new _ _ _
        go_wp2_with (first | (refine ak _ _ rfl bg (og+k*13) rfl rfl _ hrd _ Try.underlying59 rfl frame_size ?_) | (refine ay rfl _ _ _ rfl wr.heap.size 0 _ [.int .i64 (k:Int)] rfl rfl rfl _ _ hB1 (by show 0+1≤1;decide) int_one (fun u hu=>by cases List.mem_singleton.1 hu;rfl) ?_))
        intro w5 hb5 hg5
        have hb5' : aB w5 wr.heap.size #[.int .i64 (k:Int)] 3:=hb5
        have hf5:=hB2.grown hg5 (fun e=>by have:=Option.some.inj e;omega)
        have hbA5:=hbA.grown hg5 hbA.size (fun k hk=>by cases hk;exact Nat.le_refl _)
        go_wp2_with (refine eG rfl _ _ _ rfl (wr.heap.size+1) 0 (qa x) rfl rfl _ _ hf5 (by show 0+13≤13;decide) frame_size (kV x) ?_)
        intro w6 hb6 hg6
        have fx6:aB w6 (wr.heap.size+1) (qa x) 59:=by
         have e2:=gN (#[.int .u8 0,.int .u8 0,.int .u8 0,.int .u8 0,.int .u8 0,.int .u8 0,.int .u8 0,.int .u8 0,.int .i64 0,.bool false,.bool false,.int .i64 0,.int .i64 0]) (qa x) rfl
         rw[←e2];exact hb6
        have ix6:aB w6 wr.heap.size #[.int .i64 (k:Int)] 3:=hb5'.grown hg6 (fun e=>by have:=Option.some.inj e;omega)
        have hbA6:=hbA5.grown hg6 hbA5.size (fun k hk=>by cases hk;omega)
        have hbr6:=ae hbr hbA6
        have bx6:=bx.ext hbA6
        have hIh6:IB w6 gh _:=aB.ext hIh hbA6
        have hIs6:IB w6 gs _:=aB.ext hIs hbA6
        obtain⟨gx,hgx⟩:∃g,g=wr.heap.size+1:=⟨_,rfl⟩
        rw[←hgx] at fx6 ⊢
        rw[←hgi] at ix6 ⊢
        clear hbA hbA5 hbA6 hB1 hB2 hb5 hb5' hf5 hg5 hg6 hb6 hrd hbr bx hIh hIs e1 hgl hbl hgx hgi
        go_upto_region 32 with (fail)
        by_cases c1:x.r=cnt (lu H.ma) k
        ·by_cases c2:0≤x.f
         ·skip
          refine aC 19 [_,_,_,_,_,_,_,_,_,_,_,_,_,_,.v (.func (.func 41) #[] #[.pointer (some ⟨gi,0,none⟩)]),.v (.bool (H.ca.any (isK (k:Int)))),_,_,.v (.bool (!(H.ca.any (isK (k:Int)))))] (Gf gx 8 rfl rfl (Gl fx6 rfl rfl rfl rfl rfl (Gk rfl (Gl ix6 (V:=.int .i64 (k:Int)) rfl rfl rfl rfl rfl (Gr (.pointer (some ⟨gh,k,none⟩)) (fun ρ y W hb hKn=>(wR rfl (az rfl hKn) (az rfl hKn) hkl Try.underlying28 int_one)) rfl rfl (Gc (.int .i64 (cnt (lu H.ma) k:Int)) (fun W hb=>by simp[IB.cell (aB.ext hIh6 hb) (jE H.m.fs.length (lu H.ma) k hkl)]) rfl rfl rfl rfl (Gb (.bool false) (by simp[go_sem,c1]) rfl rfl rfl rfl rfl (Gk rfl (Gf gx 11 rfl rfl (Gl fx6 rfl rfl rfl rfl rfl (Gb (.bool true) (by simp[go_sem,c2]) rfl rfl rfl rfl rfl (Gk rfl (Gf w.heap.size 9 rfl rfl (Gl bx6 rfl rfl rfl rfl rfl (all_cons ?_ (all_cons ?_ (Gr (.bool (!(H.ca.any (isK (k:Int))))) (fun ρ y W hb hKn=>vg rfl (az rfl hKn)) rfl rfl (Gk rfl (Gk rfl (all_nil)))))))))))))))))))) (fun _=>rfl) rfl ?_
          ·intro ρ y W hw hn hb hd;have E15:ρ (.tmp 15) = .pointer (some ⟨gi,0,none⟩):=(hn (.tmp 15) rfl).trans rfl
           refine ah (.func (.func 41) #[] #[.pointer (some ⟨gi,0,none⟩)]) (aJ 11 120 true true rfl rfl ((hw 120 11 rfl).trans (hd 11 rfl))) (by simp[execOp,go_sem,E15]) rfl
          ·intro ρ y W hw hn hb hd;have E122:=hw 122 13 rfl;have h13:y 13=_:=hd 13 rfl;have E123:=hw 123 14 rfl;have h14:y 14=_:=hd 14 rfl
           have EF:∀f,ρ (.func f) = .func (.func f) #[] #[]:=fun f=>hn (.func f) trivial
           refine aG _ _ (aJ 11 120 true true rfl rfl ((hw 120 11 rfl).trans (hd 11 rfl))) (aK rfl (EF _) Try.func40 (by kernel_rfl) (by kernel_rfl) (by simp only[List.map_toArray,List.map_cons,List.map_nil,E122,h13,E123,h14,EF];rfl)) ?_
           refine (JB H.ca _ _ W ((h.below hbr6).below hb).ca.rd (by omega) gi k (ix6.ext hb)).mono ?_
           rintro r w1 ⟨rfl,hb1⟩
           exact⟨_,rfl,hb1,rfl⟩
          intro y W7 hbW7 _
          have hbr7:=ae hbr6 hbW7
          have bx7:=bx6.ext hbW7
          have hIh7:=aB.ext hIh6 hbW7
          have hIs7:=aB.ext hIs6 hbW7
          clear hbW7 hbr6 bx6 hIh6 hIs6 ix6 fx6
          cases hA:H.ca.any (isK (k:Int)) with
          | true=>
           have hcnd:Hid (xB H.ma k=true):=Lib.hid (by rw[hcd.out,decide_eq_true c1,hA];simp)
           clear c1 c2
           have hall:Hid (∀i,i<k+1→xB H.ma i=true):=Lib.hid fun i hi=>by
            by_cases e:i=k
            ·rw[e];exact hcnd.out
            ·exact hz3.out i (by omega)
           go_wp2
           go_roundw
           case rel=>exact⟨k+1,by omega,by go_num,hbr7,bx7,hIh7,hIs7,hall⟩
           case measure=>simp[intOf];omega
          | false=>
           have hcnd:Hid (xB H.ma k=false):=Lib.hid (by rw[hcd.out,decide_eq_true c1,hA,decide_eq_false (by omega)];rfl)
           clear c1 c2
           have hq:Hid (fP H.ma=7):=Lib.hid (by rw[hwr2.out,if_neg];intro hcb;exact absurd (AV hcb k hkl) (by rw[hcnd.out];decide))
           go_wp2
           go_ret
           rw[hq.out]
           exact⟨rfl,hbr7⟩
         ·have hcnd:Hid (xB H.ma k=true):=Lib.hid (by rw[hcd.out,decide_eq_true c1,decide_eq_true (by omega)];rfl)
          refine aC 19 [_,_,_,_,_,_,_,_,_,_,_,_,_,_,_,_,_,_,.v (.bool false)] (Gf gx 8 rfl rfl (Gl fx6 rfl rfl rfl rfl rfl (Gk rfl (Gl ix6 (V:=.int .i64 (k:Int)) rfl rfl rfl rfl rfl (Gr (.pointer (some ⟨gh,k,none⟩)) (fun ρ y W hb hKn=>(wR rfl (az rfl hKn) (az rfl hKn) hkl Try.underlying28 int_one)) rfl rfl (Gc (.int .i64 (cnt (lu H.ma) k:Int)) (fun W hb=>by simp[IB.cell (aB.ext hIh6 hb) (jE H.m.fs.length (lu H.ma) k hkl)]) rfl rfl rfl rfl (Gb (.bool false) (by simp[go_sem,c1]) rfl rfl rfl rfl rfl (Gk rfl (Gf gx 11 rfl rfl (Gl fx6 rfl rfl rfl rfl rfl (Gb (.bool false) (by simp[go_sem,c2]) rfl rfl rfl rfl rfl (Gk rfl (Gk rfl (Gk rfl (Gk rfl (Gk rfl (Gk rfl (Gk rfl (Gk rfl (all_nil)))))))))))))))))))) (fun _=>rfl) rfl ?_
          intro y W7 hbW7 _
          have hbr7:=ae hbr6 hbW7
          have bx7:=bx6.ext hbW7
          have hIh7:=aB.ext hIh6 hbW7
          have hIs7:=aB.ext hIs6 hbW7
          clear hbW7 hbr6 bx6 hIh6 hIs6 ix6 fx6
          clear c1 c2
          have hall:Hid (∀i,i<k+1→xB H.ma i=true):=Lib.hid fun i hi=>by
           by_cases e:i=k
           ·rw[e];exact hcnd.out
           ·exact hz3.out i (by omega)
          go_wp2
          go_roundw
          case rel=>exact⟨k+1,by omega,by go_num,hbr7,bx7,hIh7,hIs7,hall⟩
          case measure=>simp[intOf];omega
        ·have hcnd:Hid (xB H.ma k=false):=Lib.hid (by rw[hcd.out,decide_eq_false c1];rfl)
         refine aC 19 [_,_,_,_,_,_,_,_,_,_,_,_,_,_,_,_,_,_,.v (.bool true)] (Gf gx 8 rfl rfl (Gl fx6 rfl rfl rfl rfl rfl (Gk rfl (Gl ix6 (V:=.int .i64 (k:Int)) rfl rfl rfl rfl rfl (Gr (.pointer (some ⟨gh,k,none⟩)) (fun ρ y W hb hKn=>(wR rfl (az rfl hKn) (az rfl hKn) hkl Try.underlying28 int_one)) rfl rfl (Gc (.int .i64 (cnt (lu H.ma) k:Int)) (fun W hb=>by simp[IB.cell (aB.ext hIh6 hb) (jE H.m.fs.length (lu H.ma) k hkl)]) rfl rfl rfl rfl (Gb (.bool true) (by simp[go_sem,c1]) rfl rfl rfl rfl rfl (Gk rfl (Gk rfl (Gk rfl (Gk rfl (Gk rfl (Gk rfl (Gk rfl (Gk rfl (Gk rfl (Gk rfl (Gk rfl (Gk rfl (all_nil)))))))))))))))))))) (fun _=>rfl) rfl ?_
         intro y W7 hbW7 _
         have hbr7:=ae hbr6 hbW7
         have bx7:=bx6.ext hbW7
         have hIh7:=aB.ext hIh6 hbW7
         have hIs7:=aB.ext hIs6 hbW7
         clear hbW7 hbr6 bx6 hIh6 hIs6 ix6 fx6
         clear c1
         have hq:Hid (fP H.ma=7):=Lib.hid (by rw[hwr2.out,if_neg];intro hcb;exact absurd (AV hcb k hkl) (by rw[hcnd.out];decide))
         go_wp2
         go_ret
         rw[hq.out]
         exact⟨rfl,hbr7⟩
       ·have hki:¬(k:Int)<(H.m.fs.length:Int):=by omega
        have hrs:=(h.below hbr).sl
        have hIsr:bZ wr (some ⟨gs,0,none⟩) ((gF H.sl.length (kI H.ma)).map dE):=fun i u hi=>⟨gs,0,rfl,by rw[Nat.zero_add,aB.cell hIs];simpa using hi⟩
        have hcb:=bx.cell
        unfold bM at hcb
        have hll:=Lib.hid (iH H.sl.length (kI H.ma))
        have hq:Hid (fP H.ma=if H.sl=gF H.sl.length (kI H.ma) then 0 else 7):=Lib.hid (by
         rw[hwr2.out,Ae,List.all_eq_true.2 (fun i hi=>hz3.out i (by have:=List.mem_range.1 hi;have e:H.ma.m.fs.length=H.m.fs.length:=rfl;omega)),Bool.true_and]
         show (if decide (H.sl=gF H.sl.length (kI H.ma))=true then (0:Int) else 7)=_
         by_cases e:H.sl=gF H.sl.length (kI H.ma)
         ·rw[if_pos e,if_pos (decide_eq_true e)]
         ·rw[if_neg e,if_neg (by simp[e])])
        have hsl60:=n2
        generalize hC:gF H.sl.length (kI H.ma)=C at *
        clear hz3 hwr2 hC
        go_wp2_with fail
        rw[show (Value.slice (some ⟨gs,0,none⟩) H.sl.length H.sl.length) = .slice (some ⟨gs,0,none⟩) C.length H.sl.length from by rw[hll.out]]
        refine (BI H.sl C H.asl (some ⟨gs,0,none⟩) H.csl H.sl.length _ hrs.rd hIsr (by omega) (by rw[hll.out];omega)).mono ?_
        rintro r w5 ⟨rfl,hb5⟩
        by_cases e:H.sl=C
        ·rw[show (H.sl==C)=true from by rw[beq_iff_eq];exact e]
         have hq0:Hid (fP H.ma=0):=Lib.hid (by rw[hq.out,if_pos e])
         clear e hcb
         go_wp2
         go_ret
         rw[hq0.out]
         exact⟨rfl,ae hbr hb5⟩
        ·rw[show (H.sl==C)=false from by rw[beq_eq_false_iff_ne];exact e]
         have hq0:Hid (fP H.ma=7):=Lib.hid (by rw[hq.out,if_neg e])
         clear e hcb
         go_wp2
         go_ret
         rw[hq0.out]
         exact⟨rfl,ae hbr hb5⟩
theorem lL {w:World} {a b:Nat} {cs cs' : Array Value} {T T' : TypeId} (h:aB w a cs T) (h' : aB w b cs' T') (hT:T≠T'):a≠b:=by
 rintro rfl
 unfold aB at h h'
 rw[h] at h'
 simp only[Option.some.injEq,Obj.cells.injEq] at h'
 exact hT h'.2.1
def LZ (B:Nat) (m:Mem):iF:=⟨fun v w => ∃u,v = .agg #[u,.int .i64 m.hand]∧Own w B 59 13 u m.fs.length (m.fs.flatMap ng),fun _ _ _ hb ⟨u,h1,h2⟩=>⟨u,h1,h2.below hb⟩⟩
theorem nG (l:List Cc):(l.flatMap kJ).length=l.length*3:=Pw.flat_len kJ 3 ku l
theorem zG (c:Cc):∀u∈kJ c,u.oneCell' = true:=aY (nJ c)
theorem zz (l:List Cc):∀u∈l.flatMap kJ,u.oneCell' = true:=by
 intro u hu
 obtain⟨c,_,hc⟩:=List.mem_flatMap.1 hu
 exact zG c u hc
def Ls (B:Nat) (S:St):iF:=⟨fun v w => ∃u ps k,v = .agg #[u,.int .i64 k]∧qX w B u ps∧dW ps k=S,fun _ _ _ hb ⟨u,ps,k,h1,h2,h3⟩=>⟨u,ps,k,h1,h2.below hb,h3⟩⟩
end Go.Proofs.Ytkjobhcnlppcnaa
namespace Pw
open Go Go.RowKit
theorem wp_mono' {P:Program} {Q:Exit→Act→World→Prop} {o:Oper} {a:Act} {w:World} {K K' : Act→World→Prop} (h:∀v D w,K (Act.put { a with defers:=D } o.dst v) w→K' (Act.put { a with defers:=D } o.dst v) w)
  (hh:o.wp P a w K Q):o.wp P a w K' Q:=by
 unfold Oper.wp at *
 generalize (execOp a.eval o).run P w=r at *
 cases r with
 | ok n w'=>
  cases n<;>simp only[Oper.upon] at hh ⊢ <;>
   first
    | exact h _ a.defers _ hh
    | exact h _ _ _ hh
    | exact Calls.mono hh (fun e w'' he=>by cases e<;>first | exact h _ a.defers _ he | exact he)
    | exact Rows.mono hh (fun _ _ he=>h _ a.defers _ he)
 | halt x w'=>cases x<;>simp only[Oper.upon] at hh ⊢<;>exact hh
def sF (v:Value) (o:Oper):Oper:={ o with op:=.move (.const v) }
def freed (ops:Array Oper) (p:Nat) (v:Value):Array Oper:=ops.modify p (sF v)
theorem uh (ops:Array Oper) (p:Nat) (v:Value) (i:Nat):(freed ops p v)[i]?=if p=i then (ops[i]?).map (sF v) else ops[i]?:=by
 unfold freed
 rw[Array.getElem?_modify]
theorem wL (ops:Array Oper) (p:Nat) (v:Value):(freed ops p v).size=ops.size:=by unfold freed;simp
theorem uu (ops:Array Oper) (p:Nat) (v:Value) (listed:Array Bool):Region.ready .any (freed ops p v) listed=Region.ready .any ops listed:=by
 unfold Region.ready
 rw[wL]
 apply List.filter_congr
 intro i _
 congr 1
 rw[uh]
 by_cases e:p=i
 ·rw[if_pos e]
  cases ops[i]?<;>rfl
 ·rw[if_neg e]
theorem xM (ops:Array Oper) (p:Nat) (v:Value) (ts:Array Value):yielded (freed ops p v) ts=yielded ops ts:=by
 funext g
 unfold yielded
 rw[uh]
 by_cases e:p=g
 ·rw[if_pos e]
  cases ops[g]?<;>rfl
 ·rw[if_neg e]
def Cf (ops:Array Oper) (p d:Nat):Bool:=
 (match ops[p]? with
  | some o=>(match o.op with
   | .move (.tmp t)=>decide (t=d)&&o.guard.isNone&&decide (o.dst≠some d)
   | _=>false)
  | none=>false) &&
 (List.range ops.size).all fun i=>match ops[i]? with
  | none=>true
  | some o=>decide (o.dst≠some d)||o.after.toList.any fun e=>decide (e.on=p)&&Region.binds .any e
theorem zT {a:Act} {D:List Deferred} {dst:Option Tmp} {v:Value} {d:Nat} (h:dst≠some d):(Act.put { a with defers:=D } dst v).eval (.tmp d)=a.eval (.tmp d):=by
 cases dst with
 | none=>rfl
 | some t=>
  have ht:t≠d:=fun e=>h (by rw[e])
  simp[Act.put,Act.eval,Array.getElem?_setIfInBounds,ht]
theorem Ct {ops:Array Oper} {listed:Array Bool} {i:Nat} {o:Oper} (hi:i∈Region.ready .any ops listed) (ho:ops[i]?=some o):listed.getD i false=false∧∀e∈o.after,Region.binds .any e=true→listed.getD e.on false=true:=by
 obtain⟨h1,o',ho',h2⟩:=mem_ready.1 hi
 rw[ho] at ho'
 cases ho'
 refine⟨?_,h2⟩
 rw[Array.getD_eq_getD_getElem?] at h1 ⊢
 cases h:listed[i]? with
 | none=>rfl
 | some b=>rw[h] at h1;exact h1
theorem rC {P:Program} {ops:Array Oper} {Q:Exit→Act→World→Prop} {p d:Nat} {v:Value} (hok0:Cf ops p d=true):∀(fuel:Nat) (listed:Array Bool) (a:Act) (w:World),(listed.getD p false=false→a.eval (.tmp d)=v)→wpAny P .any (freed ops p v) Q fuel listed a w→wpAny P .any ops Q fuel listed a w
 | 0,listed,a,w,hI,h=>by
  unfold wpAny at h ⊢
  rw[uu] at h
  exact h
 | fuel+1,listed,a,w,hI,h=>by
  unfold wpAny at h ⊢
  rw[uu] at h
  refine⟨h.1,fun i hi => ?_⟩
  have hw:=h.2 i hi
  have hup:(listed.setIfInBounds i true).getD p false=false→listed.getD p false=false:=fun h'=>by
   cases hl:listed.getD p false with
   | false=>rfl
   | true=>
    exfalso
    by_cases hs:i<listed.size
    ·rw[pJ hs p hl] at h'; cases h'
    ·have e:listed.setIfInBounds i true=listed:=by rw[Array.setIfInBounds_eq_of_size_le (by omega)]
     rw[e,hl] at h'; cases h'
  have hok:=hok0
  unfold Cf at hok
  rw[Bool.and_eq_true] at hok
  obtain⟨hp,hall⟩:=hok
  unfold wpOp at hw ⊢
  rw[uh,xM] at hw
  cases ho:ops[i]? with
  | none=>
   rw[ho] at hw
   have hw' : wpAny P .any (freed ops p v) Q fuel (listed.setIfInBounds i true) a w:=by
    by_cases e:p=i
    ·rw[if_pos e] at hw;exact hw
    ·rw[if_neg e] at hw;exact hw
   exact rC hok0 fuel _ a w (fun h'=>hI (hup h')) hw'
  | some o=>
   rw[ho] at hw
   have hilt:i<ops.size:=(Array.getElem?_eq_some_iff.1 ho).1
   have hedge:=Ct hi ho
   by_cases e:p=i
   ·subst e
    rw[if_pos rfl] at hw
    simp only[Option.map_some] at hw
    rw[ho] at hp
    simp only at hp
    cases hop:o.op with
    | move x=>
     rw[hop] at hp
     cases x with
     | tmp t=>
      simp only[Bool.and_eq_true,decide_eq_true_eq] at hp
      obtain⟨⟨rfl,hg⟩,hdst⟩:=hp
      have hev:a.eval (.tmp t)=v:=hI hedge.1
      have hex:execOp a.eval (sF v o)=execOp a.eval o:=by
       unfold execOp sF
       simp only[hop]
       rw[hev];rfl
      have hnext:∀(v' : Value) (D:List Deferred) (w:World),wpAny P .any (freed ops p v) Q fuel (listed.setIfInBounds p true) (Act.put { a with defers:=D } o.dst v') w→wpAny P .any ops Q fuel (listed.setIfInBounds p true) (Act.put { a with defers:=D } o.dst v') w:=
       fun v' D w hh=>rC hok0 fuel _ _ w (fun _=>by rw[zT hdst];exact hev) hh
      simp only
      have hwt:Region.wanted (sF v o) (yielded ops a.tmps)=Region.wanted o (yielded ops a.tmps):=rfl
      rw[hwt] at hw
      split
      ·rename_i hwant
       rw[if_pos hwant] at hw
       rcases hw with hw|hw
       ·refine .inl (wp_mono' hnext ?_)
        unfold Oper.wp at hw ⊢
        rw[←hex];exact hw
       ·refine .inr ⟨?_,hw.2⟩
        have:=hw.1
        unfold Oper.asks at this ⊢
        rw[←hex];exact this
      ·rename_i hwant
       rw[if_neg hwant] at hw
       exact hnext undef a.defers w hw
     | _=>cases hp
    | _=>rw[hop] at hp;cases hp
   ·rw[if_neg e] at hw
    simp only at hw ⊢
    have ho2:=List.all_eq_true.1 hall i (List.mem_range.2 hilt)
    rw[ho] at ho2
    simp only[Bool.or_eq_true,decide_eq_true_eq] at ho2
    have hnext:∀(v' : Value) (D:List Deferred) (w:World),wpAny P .any (freed ops p v) Q fuel (listed.setIfInBounds i true) (Act.put { a with defers:=D } o.dst v') w→wpAny P .any ops Q fuel (listed.setIfInBounds i true) (Act.put { a with defers:=D } o.dst v') w:=by
     intro v' D w hh
     refine rC hok0 fuel _ _ w (fun h' => ?_) hh
     rcases ho2 with h2|h2
     ·rw[zT h2];exact hI (hup h')
     ·rw[List.any_eq_true] at h2
      obtain⟨e',he',h3⟩:=h2
      rw[Bool.and_eq_true,decide_eq_true_eq] at h3
      have:=hedge.2 e' (Array.mem_toList_iff.1 he') h3.2
      rw[h3.1] at this
      rw[hup h'] at this;cases this
    split
    ·rename_i hwant
     rw[if_pos hwant] at hw
     exact hw.imp (wp_mono' hnext) id
    ·rename_i hwant
     rw[if_neg hwant] at hw
     exact hnext undef a.defers w hw
def freedL:List Oper→Nat→Value→List Oper
 | [],_,_=>[]
 | o::r,0,v=>sF v o::r
 | o::r,k+1,v=>o::freedL r k v
theorem wX (v:Value):∀(l:List Oper) (p:Nat),l.modify p (sF v)=freedL l p v
 | [],p=>by cases p<;>rfl
 | o::r,0=>rfl
 | o::r,k+1=>by
  rw[List.modify_succ_cons,wX v r k];rfl
theorem Ff (l:List Oper) (p:Nat) (v:Value):freed ⟨l⟩ p v=⟨freedL l p v⟩:=by
 unfold freed
 rw[←wX]
 simp
theorem DU {P:Program} {l:List Oper} {Q:Exit→Act→World→Prop} {id:Nat} {a0:Act} {w0:World} (p d:Nat) (v0:Value) (hm:P.follows .mixedOrders=true) (hf:Cf ⟨l⟩ p d=true) (hv:a0.eval (.tmp d)=v0)
  (h:∀ops:Array Oper,ops=(freedL l p v0).toArray→wpAny P .any ops Q ops.size (Array.replicate ops.size false) a0 { w0 with drawn:=w0.drawn+1 }) :
  (Code.region id ⟨l⟩ true).wp P Q a0 w0:=by
 have h:=h _ rfl
 rw[show (freedL l p v0).toArray=freed ⟨l⟩ p v0 from (Ff l p v0).symm,wL] at h
 exact wp_region_any hm (rC hf _ _ _ _ (fun _=>hv) h)
end Pw