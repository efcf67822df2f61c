import Derived.Test.YtpaeabelhnnbiaaGreatV4
import Derived.BigQuiet
import Derived.Deep.OwnRows
import Derived.Deep.DeepCutAuto
import Derived.BigRegion
set_option linter.unusedSimpArgs false
set_option linter.unusedVariables false
set_option maxHeartbeats 4000000
set_option maxRecDepth 100000
namespace Go.Proofs.YtpaeabelhnnbiaaGreat
open _root_.Go.Proofs.Tryz
open Go.RowKit Go.Maps Pw
variable {B b c f i j k p q:Nat} {H H' H0:MH} {P:Program} {T e t:TypeId} {a:Option Addr} {cs:Array Value} {g:Pg} {l:List Int} {m m':Ma} {n:Int} {o:Oper} {s:St} {w w' w0:World} {x:Operand} {ρ:Operand → Value}
theorem Ja (k:Kp) (f n:Int):(dK k f n).m.sp=k.m.sp:=by unfold dK;split<;>rfl
theorem rH (k:Kp) (p:Nat) (n:Int) (e:En):(cZ k p n e).m.sp.length=k.m.sp.length∧∀j,(bE (cZ k p n e).m j).ar=(bE k.m j).ar:=by
 unfold cZ;split
 ·refine⟨by unfold setTb;exact cO,fun j => ?_⟩;unfold setTb bE;simp only[bJ,oh];split
  ·rename_i e;subst e;split
   ·simp
   ·rename_i h;rw[eU (by omega)]
  ·rfl
 ·exact⟨rfl,fun _=>rfl⟩
theorem vE (h:H'.ma.sp.length=H.ma.sp.length):H'.sp.length=H.sp.length:=by rw[pI,pI] at h;exact h
theorem KS.box {y:Nat} (h:KS w0 b H0 w H) (hg:w.grownBy w' (some y)) (hy:w0.heap.size≤y):KS w0 b H0 w' H:=
 ⟨hg.os.trans h.os,hg.tape.trans h.tape,hg.output.trans h.output,aY h.size hg.size,fun x hx hn=>(hg.block x (nO hx h.size) (fun e=>by have e' : x=y:=aT e;omega)).trans (h.keep x hx hn),h.sn⟩
def WM (H:MH) (y:Nat):Prop:=∀p∈H.sp,∀k:Nat,∀v,(rT p.ts)[k]?=some v→v.ownBlock≠some y
theorem WM.new (h:qf w B H) {y:Nat} (hy:w.heap.size≤y):WM H y:=fun p hp k v hv e=>by
 have ht:=(h.ps p hp).2;have hk:k<8:=by have:=(gU.1 hv).1;rw[ht.sz] at this;exact this
 obtain⟨v',h1,h2⟩:=ht.own k hk;rw[hv] at h1;cases h1;obtain⟨cs,hb⟩:=qJ h2 y e;have:=hb.lt;omega
theorem uM.keepN {t:Tb} (h:uM w B cs t) {g:Nat} (hn:∀(k:Nat) v,cs[k]?=some v→v.ownBlock≠some g) (hgr:w.grownBy w' (some g)):uM w' B cs t:=
 ⟨h.sz,fun k hk=>by obtain⟨v,h1,h2⟩:=h.own k hk;exact⟨v,h1,h2.grown hgr (fun g' hg' e=>hn k v h1 (by rw[hg',←e]))⟩,h.apart⟩
theorem iJ.boxE {y:Nat} {e:Int} (h:iJ w B b H e) (hk:aJ w y cs 129) (hn:WM H y) (hg:w.grownBy w' (some y)):iJ w' B b H e:=
 have m:=h.ma
 ⟨aH h.blk hk (by decide) hg,h.ge,⟨ay m.fr hk (by decide) hg,ay m.sl hk (by decide) hg,m.sw.keep hk (by decide) (by decide) hg,m.dk.keep hk (by decide) (by decide) hg,m.st.keep hk (by decide) (by decide) hg,ay m.ca hk (by decide) hg,ay m.sp hk (by decide) hg,
  fun p hp=>⟨ay (m.ps p hp).1 hk (by decide) hg,(m.ps p hp).2.keepN (hn p hp) hg⟩,m.c64⟩,h.tz⟩
theorem entTy:129≠192∧129≠132∧129≠124∧129≠114:=by decide
theorem Xx {y:Nat} {x:En} (h:aJ w y (nk x) 129):dV w (some ⟨y,0,none⟩) [.int .i64 x.k,.int .i64 x.n,.bool x.w]:=bW h 0 3
theorem LD (H:MH) (e n:Int) (p q:Nat) (B b:Nat) (w:World) (h:iJ w B b H e) (hp:p<H.sp.length) (hq:q<H.sp.length) (hf:0≤eQ (bE H.ma p).ar n) :
  Calls Tryz.prog 121 #[.pointer (some ⟨b,0,none⟩),.int .i64 p,.int .i64 q,.int .i64 n] w fun r w'=>r = .returned (.tuple #[])∧KR w B b H w' (kI ⟨H.ma,e⟩ p q n):=by
 obtain⟨P,hP⟩:∃P,H.sp[p]?=some P:=⟨_,aN hp⟩;have hG:=ae (nT hP);have ko:=ae hf;clear hf;obtain⟨g,off,kq,kh,hT,hg⟩:=h.at hP;have hc:=h.blk.cell;unfold lG at hc;rw[kq] at hc;have kx:(p:Int)<(H.sp.length:Int):=by omega
 go_enter func121,ntmps121
 go_wp2_with (refine aA _ _ rfl g (off+p*10+2) rfl rfl _ hT _ underlying112 tab_agg tab_size ?_)
 refine (tV P.tb (rT P.ts) n _ hg.tb).mono ?_;rintro r w1 ⟨rfl,hB⟩;have h1:=h.below hB;have s1:=(KS.refl w b H).below hB;clear hc kh hT hg;generalize hx:dB P.tb n=x
 go_wp2_with (refine aW rfl _ _ _ rfl (nk x) rfl rfl rfl entry_size (by simp[nk,Value.oneCell']) ?_)
 intro w2 hM t;have kc:=ae (WM.new h1.ma (az _));have kg:Hid (w.heap.size≤w1.heap.size):=ae hB.size;have h2:=h1.below hM;have s2:=s1.below hM;clear h1 s1 hB hM h;have hy:=t.cell;unfold nk at hy;have hs:Hid (aF H.ma p n=x):=ae (by unfold aF;rw[hG.out];exact hx);clear hx
 by_cases hk2:x.k=2
 ·rw[hk2] at hy;have hO:=ae hk2;clear hk2;have hZ:=h2.blk.cell;unfold lG at hZ;go_upto_region 2 with (fail);refine gI 13 [_,_,_,_,_,_,_,.r 7 ((qC w2.heap.size 3 1 (aU H.sl x.n 1).length ((aU H.sl x.n 1).map gQ) (bA H.sl x.n 1))),.r 8 ((qC w2.heap.size 3 1 (aU H.sl x.n 1).length ((aU H.sl x.n 1).map gQ) (bA H.sl x.n 1))),.r 9 ((gM w2.heap.size 3 1 (aU H.sl x.n 1).length ((aU H.sl x.n 1).map gQ))),.v (.int .i64 (bA H.sl x.n 1)),.r 11 ((gM w2.heap.size 3 1 (aU H.sl x.n 1).length ((aU H.sl x.n 1).map gQ))),.v (.int .i64 (bA H.sl x.n 1))] (fun W=>Below w2.heap.size w2 W) bn (Below.refl _ _) (Yk bn rfl (Yk bn rfl (Yf bn b 0 rfl rfl (Yf bn b 2 rfl rfl (Yc bn (.slice H.asl H.sl.length H.csl) (fun W hb=>by simp[(h2.below hb).blk.cell,lG]) rfl rfl rfl rfl (Yf bn w1.heap.size 1 rfl rfl (Yc bn (.int .i64 x.n) (fun W hb=>by simp[(t.ext hb).cell,nk]) rfl rfl rfl rfl (aj ?_ (aj ?_ (aj ?_ (aj ?_ (aj ?_ (Yk bn rfl (aG)))))))))))))) (fun _=>rfl) rfl ?_
  ·intro ρ y W hw hn hb hd;refine eH bn hb ((qC w2.heap.size 3 1 (aU H.sl x.n 1).length ((aU H.sl x.n 1).map gQ) (bA H.sl x.n 1))) (fun _ _ h=>h) ?_;have kw:=hw 31 4 rfl;have h4:y 4 = .slice H.asl H.sl.length H.csl:=hd 4 rfl;have kv:=hw 33 6 rfl;have h6:y 6 = .int .i64 x.n:=hd 6 rfl;have EC:∀v,ρ (.const v)=v:=fun v=>hn (.const v) trivial;have EF:∀f,ρ (.func f) = .func (.func f) #[] #[]:=fun f=>hn (.func f) trivial;refine aL _ _ (ag rfl) (aS rfl (EF _) func167 (by kernel_rfl) (by kernel_rfl) (by simp only[bT,bH,bL,kw,h4,kv,h6,EC,EF];rfl)) ?_;have hm:=(h2.below hb).ma.rd.sl;refine (yu H.sl H.asl H.csl x.n 1 W hm.le hm.nl hm.rd (by have:=hm.le;have:=hm.mx;unfold maxLen at this;omega)).mono ?_;rintro r W3 ⟨u,rfl,ho,kp⟩;exact⟨_,rfl,kp,u,rfl,ho.mono hb.size⟩
  ·intro ρ y W hw hn hb hd;refine eH bn hb ((qC w2.heap.size 3 1 (aU H.sl x.n 1).length ((aU H.sl x.n 1).map gQ) (bA H.sl x.n 1))) (fun _ _ h=>h) ?_;have ku:=hw 34 7 rfl;have h7:=hd 7 rfl;refine ak _ (ag rfl) (run_move (.inl rfl) ku) ?_;exact h7
  ·intro ρ y W hw hn hb hd;refine eH bn hb ((gM w2.heap.size 3 1 (aU H.sl x.n 1).length ((aU H.sl x.n 1).map gQ))) (fun _ _ h=>h) ?_;have hN:=hw 26 8 rfl;have h8:=hd 8 rfl;obtain⟨u,hu,ho⟩:=h8;refine ak u (ag rfl) (by simp[execOp,go_sem,bu,hN,hu]) ?_;exact ho
  ·intro ρ y W hw hn hb hd;refine eH bn hb (gX (.int .i64 (bA H.sl x.n 1))) (fun _ _ h=>h) ?_;have hN:=hw 26 8 rfl;have h8:=hd 8 rfl;obtain⟨u,hu,ho⟩:=h8;refine ak (.int .i64 (bA H.sl x.n 1)) (ag rfl) (by simp[execOp,go_sem,bu,hN,hu]) rfl
  ·intro ρ y W hw hn hb hd;refine eH bn hb ((gM w2.heap.size 3 1 (aU H.sl x.n 1).length ((aU H.sl x.n 1).map gQ))) (fun _ _ h=>h) ?_;have kt:=hw 35 9 rfl;have h9:=hd 9 rfl;refine ak _ (ag rfl) (run_move (.inr rfl) kt) ?_;exact h9
  intro y W3 c i;replace c:Below w2.heap.size w2 W3:=c;have kf:((qC w2.heap.size 3 1 (aU H.sl x.n 1).length ((aU H.sl x.n 1).map gQ) (bA H.sl x.n 1))).r (y 7) W3:=i 7 (by decide);have ke:((qC w2.heap.size 3 1 (aU H.sl x.n 1).length ((aU H.sl x.n 1).map gQ) (bA H.sl x.n 1))).r (y 8) W3:=i 8 (by decide);have kd:((gM w2.heap.size 3 1 (aU H.sl x.n 1).length ((aU H.sl x.n 1).map gQ))).r (y 9) W3:=i 9 (by decide);have hC:((gM w2.heap.size 3 1 (aU H.sl x.n 1).length ((aU H.sl x.n 1).map gQ))).r (y 11) W3:=i 11 (by decide);clear i;simp only[dD,bu,bH,bL];have hl:Own W3 w2.heap.size 3 1 (y 11) (aU H.sl x.n 1).length ((aU H.sl x.n 1).map gQ):=hC;obtain⟨a3,c3,e7,_⟩:=Own.rd hl;rw[e7] at hl;simp only[e7];have k3:=h2.below c;have s3:=s2.below c;have ha:=t.ext c;have kn:=ae (aY h2.bs (az _));clear kf ke kd hC e7 hy hZ h2 s2 t c
  by_cases h0:bA H.sl x.n 1=0
  ·have o:Hid (kI ⟨H.ma,e⟩ p q n=cZ ⟨{ H.ma with sl:=aU H.sl x.n 1 },e⟩ q n x):=ae (by unfold kI;simp only[hs.out];rw[if_pos hO.out];exact if_neg (fun h=>h h0));rw[h0]
   go_wp2_with (first | (refine aX rfl _ _ _ rfl b 2 _ [.slice a3 (aU H.sl x.n 1).length c3] rfl rfl rfl _ _ k3.blk (by show 2+1≤12;decide) slots_size (fun u hu=>by cases bF.1 hu;rfl) ?_))
   intro w5 z d;have k5:=k3.setL (hl.mono kn.out) z d;have s5:KS w b H w5 { H with asl:=a3,csl:=c3,sl:=aU H.sl x.n 1 }:=s3.putB d rfl rfl rfl;have j:=Xx (aH ha k3.blk (by decide) d);clear s3 k3 hl ha
   go_wp2_with (refine aA _ _ rfl w1.heap.size 0 rfl rfl _ j _ underlying129 rfl entry_size ?_)
   refine (fT _ e n q x B b _ k5 hq).mono ?_;rintro r w6 ⟨rfl,hH⟩;go_wp2;simp[bodyPost,results,go_sem,results121];rw[o.out];exact KR.trans s5 hH
  have o:Hid (kI ⟨H.ma,e⟩ p q n=⟨H.ma,bA H.sl x.n 1⟩):=ae (by unfold kI;simp only[hs.out];rw[if_pos hO.out];exact if_pos h0)
  go_wp2_with (refine aX rfl _ _ _ rfl b 11 _ [.int .i64 (bA H.sl x.n 1)] rfl rfl rfl _ _ k3.blk (by show 11+1≤12;decide) (by kernel_rfl) (fun u hu=>by cases bF.1 hu;rfl) ?_)
  intro w5 z d;have k5:=k3.setE z d;have s5:KS w b H w5 H:=s3.putB d rfl rfl rfl;go_wp2;simp[bodyPost,results,go_sem,results121];rw[o.out];exact⟨_,_,k5,s5,rfl⟩
 go_wp2_with fail
 refine (KC H e x.n 1 B b _ h2).mono ?_;rintro r w3 ⟨rfl,H3,e3,h3,s3,q3,hj⟩;have ha:=s3.blk h2 t entTy;have s3':=s2.trans s3;have ks:Hid (WM H3 w1.heap.size):=ae (by unfold WM;rw[hj];exact kc.out);have kb:H3.sp[p]?=some P:=by rw[hj];exact hP
 have hV:=ae q3;have hr:=ae hj;clear hy s3 q3 hj h2 s2 t kc;obtain⟨g3,off3,ka,hE,hS,s⟩:=h3.at kb;have hA:=s.ars;have hL:=h3.blk.cell;unfold lG at hL;rw[ka,hr.out] at hL;have hv:w3.cell? ⟨g3,off3+p*10+1,none⟩=some (.slice P.aa P.ar.length P.ac):=by obtain⟨b',o',e',hh⟩:=hE 1 _ rfl;cases e';exact hh
 go_wp2_with fail
 refine (Az P.ar n P.aa P.ac _ hA.rd (by have:=hA.le;have:=hA.mx;unfold maxLen at this;omega)).mono ?_;rintro r w4 ⟨rfl,hz⟩;clear hL hv hE hS;obtain⟨k,hk,hY,_⟩:=uK (q:=uT n) (l:=P.ar) (by show 0≤eQ P.ar n;have:=ko.out;rw[hG.out] at this;exact this);have hI : eQ P.ar n=k:=hk;obtain⟨ba,oa,kr,hF⟩:=nU jk (by decide) (hA.below hz).rd k hY;have hQ:Hid (WS (bE H.ma p).ar n=(P.ar[k]).sh):=ae (by rw[hG.out];unfold WS;show (P.ar.getD (eQ P.ar n).toNat zAr).sh=_;rw[hI,bG,bJ,aN hY];rfl);generalize P.ar[k]=a at *
 rw[hI];have h4:=h3.below hz;have s4:=s3'.below hz;have hi:=ha.ext hz;obtain⟨g4,off4,h5,hD,hR,ht⟩:=h4.at kb;have hK:=h4.blk.cell;unfold lG at hK;rw[h5,hr.out] at hK;have hv:w4.cell? ⟨g4,off4+p*10+1,none⟩=some (.slice P.aa P.ar.length P.ac):=by obtain⟨b',o',e',hh⟩:=hD 1 _ rfl;cases e';exact hh
 rw[kr] at hv;have hJ:w4.cell? ⟨ba,oa+k*7+4,none⟩=some (.bool a.sh):=by obtain⟨b',o',e',hh⟩:=hF 4 _ rfl;cases e';exact hh
 have ky:(k:Int)<(P.ar.length:Int):=by omega
 have hW : Hid (q<H3.sp.length):=ae (by rw[hr.out];exact hq);have kk : Hid (p<H3.sp.length):=ae (by rw[hr.out];exact hp);clear hk hI hA hD hR ht s h3 s3' ha hF;have hX:=ae hk2;clear hk2;cases hash:a.sh with
 | true=>
  rw[hash] at hJ;have o:Hid (kI ⟨H.ma,e⟩ p q n=cZ (dK ⟨H.ma,e⟩ x.n 1) q n x):=ae (by unfold kI;simp only[hs.out];rw[if_neg hX.out,if_pos (by rw[hQ.out];exact hash)]);have j:=Xx hi
  go_wp2_with (refine aA _ _ rfl w1.heap.size 0 rfl rfl _ j _ underlying129 rfl entry_size ?_)
  refine (fT H3 e3 n q x B b _ h4 hW.out).mono ?_;rintro r w6 ⟨rfl,hH⟩;go_wp2;simp[bodyPost,results,go_sem,results121];rw[o.out,←hV.out];exact KR.trans s4 hH
 | false=>
  rw[hash] at hJ;have o:Hid (kI ⟨H.ma,e⟩ p q n=cZ (cZ (dK ⟨H.ma,e⟩ x.n 1) p n ⟨x.k,x.n,false⟩) q n ⟨x.k,x.n,false⟩):=ae (by unfold kI;simp only[hs.out];rw[if_neg hX.out,if_neg (by rw[hQ.out,hash];decide)])
  go_wp2_with (refine aX rfl _ _ _ rfl w1.heap.size 2 _ [.bool false] rfl rfl rfl _ _ hi (by show 2+1≤3;decide) (by kernel_rfl) (fun u hu=>by cases bF.1 hu;rfl) ?_)
  intro w5 z d;have k5:=h4.boxE hi ks.out d;have s5:=s4.box d kg.out;have j:aJ w5 w1.heap.size (nk ⟨x.k,x.n,false⟩) 129:=z;have hU:=Xx j;clear hv hJ hK h4 s4 hi z
  go_wp2_with (refine aA _ _ rfl w1.heap.size 0 rfl rfl _ hU _ underlying129 rfl entry_size ?_)
  refine (fT H3 e3 n p ⟨x.k,x.n,false⟩ B b _ k5 kk.out).mono ?_;rintro r w6 ⟨rfl,H6,e6,h6,s6,q6⟩;have ki:=Xx (s6.blk k5 j entTy);have s6':=s5.trans s6;have kj:=ae q6;have kl:Hid (q<H6.sp.length):=ae (by have e1:=congrArg (fun k=>k.m.sp.length) q6;have e2:=(rH ⟨H3.ma,e3⟩ p n ⟨x.k,x.n,false⟩).1;rw[vE (e1.trans e2)];exact hW.out);clear s6 q6 s5 k5 j hU
  go_wp2_with (refine aA _ _ rfl w1.heap.size 0 rfl rfl _ ki _ underlying129 rfl entry_size ?_)
  refine (fT H6 e6 n q ⟨x.k,x.n,false⟩ B b _ h6 kl.out).mono ?_;rintro r w7 ⟨rfl,km⟩;go_wp2;simp[bodyPost,results,go_sem,results121];rw[o.out,←hV.out,←kj.out];exact KR.trans s6' km
theorem srt_len:∀ {l:List Nat} {a n:Nat},l.Pairwise (· < ·)→(∀x∈l,a≤x∧x<n)→l.length≤n-a
 | [],_,_,_,_=>by simp
 | x::l,a,n,hs,h=>by obtain⟨h1,h2⟩:=sJ.1 hs;have hx:=h x jh;have:=srt_len (a:=x+1) (n:=n) h2 fun y hy=>⟨h1 y hy,(h y (iM _ hy)).2⟩;rw[mR];omega
theorem VY (h:uu m) (hs:aQ m.st=0):m.ca.length≤60:=by
 have hl:∀c∈m.ca,0≤c.f∧c.f<5∧0≤c.i∧c.i<12:=fun c hc=>by have h1:=h.file c hc;have h2:=AA hs h1;have h3:=h1.1;have h4:=h1.2;omega
 have key:=srt_len (l:=m.ca.map fun c=>(12*c.f+c.i).toNat) (a:=0) (n:=60) ?_ fun x hx => ?_
 ·simpa using key
 ·rw[List.pairwise_map];refine List.Pairwise.imp_of_mem ?_ h.srt;intro a b ha hb d;have h1:=hl a ha;have h2:=hl b hb;unfold CL at d;show (12*a.f+a.i).toNat<(12*b.f+b.i).toNat;omega
 obtain⟨c,hc,rfl⟩:=fF.1 hx;have h1:=hl c hc;show 0≤(12*c.f+c.i).toNat∧(12*c.f+c.i).toNat<60;omega
theorem PV (hs:aQ s=0):∀f∈s.fs,f.b.length≤12:=fun f hf=>by
 obtain⟨k,hk,rfl⟩:=jG.1 hf;have h1:=mE hs (f:=(k:Int)) ⟨by omega,by omega⟩;have hfa:aI s (k:Int)=s.fs[k]:=kH (aN hk);rw[hfa] at h1;obtain⟨a1,a2,a3,_⟩:=h1;have e:(s.fs[k].b.length:Int)≤12:=by rw[a3];unfold gG;split<;>omega
 omega
structure Forked (m m' : Ma) (p q:Nat):Prop where
 rt:Rt m'
 co:Co m'
 st:m'.st=m.st
 dk:m'.dk=m.dk
 sw:m'.sw=m.sw
 ca:m'.ca=m.ca
 len:m'.m.fs.length=m.m.fs.length
 sll:m'.sl.length=m.sl.length
 fr:∀g,wF (aD m g) (aD m' g)
 sl:∀s,iI m' s=0↔iI m s=0
 spl:m'.sp.length=max m.sp.length (q+1)
 spq:(bE m' q).lv=true∧(bE m' q).ar=(bE m p).ar
 spo:∀a,a≠q→(bE m' a).lv=(bE m a).lv∧(bE m' a).ar=(bE m a).ar
 oth:∀a j,a≠q→alike (aF m a j) (aF m' a j)
 chd:∀j,alike (aF m p j) (aF m' q j)
theorem UG {s:Sp} (q:Nat):bE { m with sp:=m.sp++[s] } q=if q=m.sp.length then s else bE m q:=by
 unfold bE;show (m.sp++[s]).getD q zSp=_;rw[bJ,List.getElem?_append]
 by_cases e:q<m.sp.length
 ·rw[if_pos e,if_neg (by omega),bJ]
 rw[if_neg e]
 by_cases e2:q=m.sp.length
 ·rw[if_pos e2,e2,BO];rfl
 ·rw[if_neg e2,bJ,eU (by simp;omega),eU (by omega)]
theorem QO (h:Rt m) (hc:Co m) (hp:p<m.sp.length) (hq:q=m.sp.length∧m.sp.length<4∨q<m.sp.length∧(bE m q).lv=false) :
  Rt (gP m p q)∧Co (gP m p q)∧(gP m p q).sp.length=max m.sp.length (q+1)∧(∀a,bE (gP m p q) a=if a=q then ⟨true,(bE m p).ar,zTb⟩ else bE m a):=by
 unfold gP;rcases hq with ⟨hq,hl⟩|⟨hq,hv⟩
 ·rw[if_pos hq];have:=CU h hc (s:=⟨true,(bE m p).ar,zTb⟩) hl rfl (h.pt.arN p) rfl;refine⟨this.1,this.2,by simp;omega,fun a => ?_⟩;rw[UG,hq]
 rw[if_neg (by omega)];have:=Fz h hc (q:=q) (s:=⟨true,(bE m p).ar,zTb⟩) hq (h.live q hv).2 (h.pt.arN p) (fun e=>by cases e) rfl;refine⟨this.1,this.2,by unfold lD;rw[cO];omega,fun a=>mV hq a⟩
theorem NQ (h:Rt m) (hc:Co m) (hp:p<m.sp.length) (hv:(bE m p).lv=true) (hq:q=m.sp.length∧m.sp.length<4∨q<m.sp.length∧(bE m q).lv=false) :
  ∃m',Dl m p q=⟨m',0⟩∧Forked m m' p q:=by
 obtain⟨a1,a2,a3,a4⟩:=QO h hc hp hq;have d:p≠q:=by
  rintro rfl;rcases hq with ⟨e,_⟩|⟨_,e⟩
  ·omega
  ·rw[hv] at e;cases e
 have i:(gP m p q).m=m.m∧(gP m p q).st=m.st∧(gP m p q).dk=m.dk∧(gP m p q).sw=m.sw∧(gP m p q).ca=m.ca∧(gP m p q).sl=m.sl:=by unfold gP lD;split<;>exact⟨rfl,rfl,rfl,rfl,rfl,rfl⟩
 obtain⟨g1,g2,g3,g4,g5,g6⟩:=i;have b:∀a j,a≠q→aF (gP m p q) a j=aF m a j:=fun a j ha=>by unfold aF;rw[a4,if_neg ha]
 have c:∀j,aF (gP m p q) q j=zEn:=fun j=>by unfold aF;rw[a4,if_pos rfl,qm]
 obtain⟨m',e1,hS⟩:=FL d (aM (bE m p).tb) ⟨gP m p q,0⟩ a1 a2 (by show q<(gP m p q).sp.length;omega) (by show (bE (gP m p q) q).ar=(bE (gP m p q) p).ar;rw[a4,a4,if_pos rfl,if_neg d]) (Bh _) (fun n hn=>by have:=jX.1 hn;refine⟨by show (aF (gP m p q) p n).k≠0;rw[b p n d];exact this.2,by show (aF (gP m p q) q n).k=0;rw[c];rfl⟩);have l:∀g,aD (gP m p q) g=aD m g:=fun g=>tu g1 g;have f:∀s,iI (gP m p q) s=iI m s:=fun s=>by unfold iI;rw[g6]
 refine⟨m',e1,hS.rt,hS.co,hS.st.trans g2,hS.dk.trans g3,hS.sw.trans g4,hS.ca.trans g5,hS.len.trans (by show (gP m p q).m.fs.length=_;rw[g1]),hS.sll.trans (by show (gP m p q).sl.length=_;rw[g6]),fun g=>by rw[←l];exact hS.fr g,fun s=>by rw[←f];exact hS.sl s,?_,?_,fun a ha => ?_,fun a j ha => ?_,fun j => ?_⟩
 ·exact hS.sk.len.trans a3
 ·refine⟨(hS.sk.lv q).trans ?_,(hS.sk.ar q).trans ?_⟩
  ·show (bE (gP m p q) q).lv=true;rw[a4,if_pos rfl]
  ·show (bE (gP m p q) q).ar=_;rw[a4,if_pos rfl]
 ·refine⟨(hS.sk.lv a).trans ?_,(hS.sk.ar a).trans ?_⟩
  ·show (bE (gP m p q) a).lv=_;rw[a4,if_neg ha]
  ·show (bE (gP m p q) a).ar=_;rw[a4,if_neg ha]
 ·rw[←b a j ha];exact hS.oth a j ha
 by_cases hj:j∈aM (bE m p).tb
 ·have:=hS.chd j hj;rw[show aF (Kp.m ⟨gP m p q,0⟩) p j=aF m p j from b p j d] at this;exact this
 have h1:aF m' q j=aF (gP m p q) q j:=hS.chn j hj;rw[h1,c];have h2:(aF m p j).k=0:=by
  by_cases hb:0≤j∧j<64
  ·by_cases h3:(aF m p j).k=0
   ·exact h3
   ·exact absurd (jX.2 ⟨hb,h3⟩) hj
  ·rw[zS p (by omega)];rfl
 have h3:=(cz _).1 (jL h.pt p j);exact⟨h2.symm,by show (0:Int)=_;omega⟩
theorem xB (hst:m'.st=m.st) (hdk:m'.dk=m.dk) (hsw:m'.sw=m.sw) (hca:m'.ca=m.ca) (hfr:∀g,(aD m' g).p=(aD m g).p∧(aD m' g).f=(aD m g).f) (har:(bE m' q).ar=(bE m p).ar) (he:alike (aF m p n) (aF m' q n)):iO m' q n=iO m p n:=by
 have d:∀a b,aR m' a b=aR m a b:=fun a b=>by
  unfold aR;rw[hca,hst,hdk];cases m.ca.find? fun c=>decide (c.f=a)&&decide (c.i=b) with
  | none=>rfl
  | some c=>exact (hfr c.k.toNat).1
 have hp:dQ m' q n=dQ m p n:=by unfold dQ;rw[har]
 cases hg:dQ m p n with
 | none=>rw[oM hg,oM (hp.trans hg)]
 | some g=>
  rw[iL hg,iL (hp.trans hg)];unfold uo;rw[he.1,he.2,hsw,hst,d];have h1:=(hfr (aF m p n).n.toNat).1;have h2:=(hfr (aF m p n).n.toNat).2;have h : (gL m' (aF m p n).n).p=(gL m (aF m p n).n).p:=h1;have e : (gL m' (aF m p n).n).f=(gL m (aF m p n).n).f:=h2;rw[h,e]
theorem AV (hst:m'.st=m.st) (hdk:m'.dk=m.dk) (hca:m'.ca=m.ca) (hfr:∀g,(aD m' g).p=(aD m g).p) (a b:Int):aR m' a b=aR m a b:=by
 unfold aR;rw[hca,hst,hdk];cases m.ca.find? fun c=>decide (c.f=a)&&decide (c.i=b) with
 | none=>rfl
 | some c=>exact hfr c.k.toNat
structure NT (m m' : Ma) (p:Nat) (D:Int→Prop):Prop where
 rt:Rt m'
 co:Co m'
 vis:vP (fun q j=>q=p∧D j) m m'
 st:m'.st=m.st
 dk:m'.dk=m.dk
 sw:m'.sw=m.sw
 ca:m'.ca=m.ca
 len:m'.m.fs.length=m.m.fs.length
 sll:m'.sl.length=m.sl.length
 ents:∀q j,(q=p∧D j→aF m' q j=zEn)∧(¬(q=p∧D j)→aF m' q j=aF m q j)
 fr:∀g,(aD m' g).r≠0→(aD m' g).p=(aD m g).p∧(aD m' g).u=(aD m g).u∧(aD m' g).d=(aD m g).d∧(aD m' g).f=(aD m g).f∧(aD m' g).i=(aD m g).i
theorem Less.zero (h:Rt m) (hc:Co m) (h0:(aF m p n).k=0):Less m m p n:=by
 refine⟨h,hc,.refl _ _,rfl,rfl,rfl,rfl,rfl,rfl,fun q j => ?_,fun _ _=>⟨rfl,rfl,rfl,rfl,rfl⟩⟩
 by_cases e:q=p∧j=n
 ·rw[if_pos e,e.1,e.2];have hE:=(cz _).1 (jL h.pt p n);rcases hE with hE|hE|hE
  ·show aF m p n=⟨0,0,false⟩;cases hx:aF m p n;rw[hx] at hE;simp only at hE;rw[hE.1,hE.2.1,hE.2.2]
  ·omega
  ·omega
 ·rw[if_neg e]
theorem Ad {k:Kp} (h:Rt k.m) (hc:Co k.m) (p:Nat) (n:Int):∃m',iG k p n=⟨m',k.e⟩∧Less k.m m' p n:=by
 rcases Vj h hc p n with ⟨h0,e⟩|h'
 ·exact⟨k.m,e,.zero h hc h0⟩
 ·exact h'
theorem AQ (p:Nat) (a n:Int):∀(l:List Int) (k:Kp),Rt k.m→Co k.m→∃m',jy k p a n l=⟨m',k.e⟩∧NT k.m m' p (fun j=>j∈l∧TH a n j=true)
 | [],k,h,hc=>⟨k.m,rfl,h,hc,.refl _ _,rfl,rfl,rfl,rfl,rfl,rfl,fun q j=>⟨fun h'=>absurd h'.2.1 (by simp),fun _=>rfl⟩,fun _ _=>⟨rfl,rfl,rfl,rfl,rfl⟩⟩
 | i::l,k,h,hc=>by
  by_cases hi:TH a n i=true
  ·obtain⟨m1,e1,h1⟩:=Ad h hc p i;obtain⟨m2,e2,h2⟩:=AQ p a n l ⟨m1,k.e⟩ h1.rt h1.co;refine⟨m2,?_,h2.rt,h2.co,?_,h2.st.trans h1.st,h2.dk.trans h1.dk,h2.sw.trans h1.sw,h2.ca.trans h1.ca,h2.len.trans h1.len,h2.sll.trans h1.sll,fun q j=>⟨fun⟨hq,hj,hjn⟩ => ?_,fun hj => ?_⟩,fun g hr => ?_⟩
   ·unfold jy at e2 ⊢;rw[sH,if_pos hi,e1,e2]
   ·refine (h1.vis.mono fun q j hx => ?_).trans (h2.vis.mono fun q j hx=>⟨hx.1,iM _ hx.2.1,hx.2.2⟩);exact⟨hx.1,by rw[hx.2];exact jh,by rw[hx.2];exact hi⟩
   ·by_cases hjl:j∈l
    ·exact (h2.ents q j).1 ⟨hq,hjl,hjn⟩
    have hji:j=i:=by rcases eT.1 hj with e | e;exact e;exact absurd e hjl
    rw[(h2.ents q j).2 (fun h'=>hjl h'.2.1)];show aF m1 q j=_;rw[h1.ents,if_pos ⟨hq,hji⟩]
   ·rw[(h2.ents q j).2 (fun h'=>hj ⟨h'.1,iM _ h'.2.1,h'.2.2⟩)];show aF m1 q j=_;rw[h1.ents,if_neg];exact fun h'=>hj ⟨h'.1,by rw[h'.2];exact jh,by rw[h'.2];exact hi⟩
   have b1:=h2.fr g hr;have hr1:(aD m1 g).r≠0:=by
    intro e;rcases fM g m1.m.fs.length with hg|hg
    ·have c1:=h1.rt.cf g hg;have c2:=h2.rt.cf g (by rw[h2.len];exact hg);have c3:tO m2 g=tO m1 g:=by unfold tO;rw[h2.ca]
     have c4:¬0<bN m2 1 g:=fun hh=>by
      obtain⟨q,j,d1,d2,d3,d4⟩:=(ji (by decide)).1 hh;have d5:aF m2 q j=aF m1 q j:=by
       by_cases hx:q=p∧j∈l∧TH a n j=true
       ·rw[(h2.ents q j).1 hx] at d3;exact absurd d3 (by decide)
       ·exact (h2.ents q j).2 hx
      rw[d5] at d3 d4;have:=(ji (m:=m1) (kd:=1) (i:=g) (by decide)).2 ⟨q,j,by have:=kE (m:=m1) (p:=q) (n:=j) (by omega);exact this.1,d2,d3,d4⟩;omega
     omega
    have:(aD m2 g).r=0:=by rw[Cu (by rw[h2.len];exact hg)];rfl
    exact hr this
   have b2:=h1.fr g hr1;exact⟨b1.1.trans b2.1,b1.2.1.trans b2.2.1,b1.2.2.1.trans b2.2.2.1,b1.2.2.2.1.trans b2.2.2.2.1,b1.2.2.2.2.trans b2.2.2.2.2⟩
  obtain⟨m2,e2,h2⟩:=AQ p a n l k h hc;refine⟨m2,?_,h2.rt,h2.co,h2.vis.mono fun q j hx=>⟨hx.1,iM _ hx.2.1,hx.2.2⟩,h2.st,h2.dk,h2.sw,h2.ca,h2.len,h2.sll,fun q j=>⟨fun⟨hq,hj,hjn⟩ => ?_,fun hj => ?_⟩,h2.fr⟩
  ·unfold jy at e2 ⊢;rw[sH,if_neg hi,e2]
  ·rcases eT.1 hj with e|hj
   ·rw[e] at hjn;exact absurd hjn hi
   ·exact (h2.ents q j).1 ⟨hq,hj,hjn⟩
  ·exact (h2.ents q j).2 fun h'=>hj ⟨h'.1,iM _ h'.2.1,h'.2.2⟩
theorem QI {k:Kp} (h:Rt k.m) (hc:Co k.m) (p:Nat) (a n:Int):∃m',zZ k p a n=⟨m',k.e⟩∧NT k.m m' p (fun j=>TH a n j=true):=by
 obtain⟨m',e,hC⟩:=AQ p a n (aM (bE k.m p).tb) k h hc;have hz:∀q j,q=p→TH a n j=true→¬j∈aM (bE k.m p).tb→aF k.m q j=zEn∧aF m' q j=zEn:=fun q j hq hj b=>by
  have e1:aF m' q j=aF k.m q j:=(hC.ents q j).2 fun h'=>b h'.2.1;have e2:aF k.m q j=zEn:=by
   subst hq;have h0:(aF k.m q j).k=0:=by
    by_cases hb:0≤j∧j<64
    ·by_cases h3:(aF k.m q j).k=0
     ·exact h3
     ·exact absurd (jX.2 ⟨hb,h3⟩) b
    ·rw[zS q (by omega)];rfl
   have:=(Less.zero h hc h0).ents q j;rw[if_pos ⟨rfl,rfl⟩] at this;exact this
  exact⟨e2,e1.trans e2⟩
 refine⟨m',e,hC.rt,hC.co,hC.vis.mono fun q j hx=>⟨hx.1,hx.2.2⟩,hC.st,hC.dk,hC.sw,hC.ca,hC.len,hC.sll,fun q j=>⟨fun⟨hq,hj⟩ => ?_,fun hj=>(hC.ents q j).2 fun h'=>hj ⟨h'.1,h'.2.2⟩⟩,hC.fr⟩
 by_cases b:j∈aM (bE k.m p).tb
 ·exact (hC.ents q j).1 ⟨hq,b,hj⟩
 ·exact (hz q j hq hj b).2
structure Gone (m m' : Ma) (p:Nat):Prop where
 rt:Rt m'
 co:Co m'
 st:m'.st=m.st
 dk:m'.dk=m.dk
 sw:m'.sw=m.sw
 ca:m'.ca=m.ca
 len:m'.m.fs.length=m.m.fs.length
 sll:m'.sl.length=m.sl.length
 spl:m'.sp.length=m.sp.length
 sp:∀a,a=p→bE m' a=zSp
 spo:∀a,a≠p→(bE m' a).lv=(bE m a).lv∧(bE m' a).ar=(bE m a).ar∧∀n,aF m' a n=aF m a n
 see:∀a n,a≠p→iO m' a n=iO m a n
 con:∀f i,ni m.st f i→aR m' f i=aR m f i
 fr:∀g,(aD m' g).r≠0→(aD m' g).p=(aD m g).p∧(aD m' g).u=(aD m g).u∧(aD m' g).d=(aD m g).d∧(aD m' g).f=(aD m g).f∧(aD m' g).i=(aD m g).i
theorem NG (h:Rt m) (hc:Co m) (hp:p<m.sp.length):∃m',vM m p=⟨m',0⟩∧Gone m m' p:=by
 obtain⟨m1,e1,h1⟩:=QI (k:=⟨m,0⟩) h hc p 0 64;have d:∀n,aF m1 p n=zEn:=fun n=>by
  by_cases hb:0≤n∧n<64
  ·exact (h1.ents p n).1 ⟨rfl,by unfold TH;simp;omega⟩
  ·exact zS p (by omega)
 have c:p<m1.sp.length:=by rw[h1.vis.sk.len];exact hp
 obtain⟨a1,a2⟩:=Fz h1.rt h1.co (q:=p) (s:=zSp) c (fun n=>by rw[d];rfl) (by decide) (fun _=>rfl) rfl;have b:=fun a=>mV (m:=m1) (q:=p) (s:=zSp) c a;refine⟨lD m1 p zSp,by unfold vM;rw[e1],a1,a2,h1.st,h1.dk,h1.sw,h1.ca,h1.len,h1.sll,?_,fun a ha=>by rw[b,if_pos ha],fun a ha => ?_,fun a n ha => ?_,fun f i hi => ?_,h1.fr⟩
 ·unfold lD;rw[cO];exact h1.vis.sk.len
 ·rw[b,if_neg ha];refine⟨h1.vis.sk.lv a,h1.vis.sk.ar a,fun n => ?_⟩;unfold aF;rw[b,if_neg ha];exact (h1.ents a n).2 fun h'=>ha h'.1
 ·have h2:iO (lD m1 p zSp) a n=iO m1 a n:=xB rfl rfl rfl rfl (fun _=>⟨rfl,rfl⟩) (by rw[b,if_neg ha]) (by unfold aF;rw[b,if_neg ha];exact⟨rfl,rfl⟩);rw[h2];exact h1.vis.see a n fun h'=>ha h'.1
 have h2:aR (lD m1 p zSp) f i=aR m1 f i:=rfl;rw[h2];exact h1.vis.con f i hi
def jP (x:Fr) (P:Page) (d:Bool):Fr:={ x with p:=P,d:=d }
theorem QH (h:Rt m) (hc:Co m) {g:Nat} {P:Page} {d:Bool} (hg:g<m.m.fs.length) (hr:(aD m g).r≠0) (ht:∀c∈m.ca,c.k.toNat=g→dm P ((aI m.st c.f).n-c.i*8)=P∧(d=true∨P=dF m c.f c.i)) (hd:d=true→0≤(aD m g).f) :
  Rt (setFr m g (jP (aD m g) P d))∧Co (setFr m g (jP (aD m g) P d)):=by
 have q:bU (jP (aD m g) P d)=0:=by have h1:=(dJ _).1 (h.pt.frE hg);rw[dJ];exact⟨h1.1,fun e=>absurd e hr,h1.2.2⟩
 have o:∀x,aD (setFr m g (jP (aD m g) P d)) x=if x=g then jP (aD m g) P d else aD m x:=fun x=>fK hg x;have j:∀x,(aD (setFr m g (jP (aD m g) P d)) x).r=(aD m x).r∧(aD (setFr m g (jP (aD m g) P d)) x).f=(aD m x).f∧(aD (setFr m g (jP (aD m g) P d)) x).i=(aD m x).i:=fun x=>by
  rw[o]
  by_cases e:x=g
  ·rw[if_pos e,e];exact⟨rfl,rfl,rfl⟩
  ·rw[if_neg e];exact⟨rfl,rfl,rfl⟩
 have l:(setFr m g (jP (aD m g) P d)).m.fs.length=m.m.fs.length:=dw;refine⟨⟨h.pt.setFr q,h.trim,h.live,⟨h.ca.file,fun c b=>by rw[l];exact h.ca.lt c b,fun c b => ?_,h.ca.srt⟩,fun p n hk => ?_,fun i hi => ?_,fun i hi h0 => ?_,h.cs⟩,⟨fun c b => ?_,fun c b a => ?_,fun i hi a => ?_⟩⟩
 ·rw[(j _).1,(j _).2.1,(j _).2.2];exact h.ca.fr c b
 ·obtain⟨y,hy,hf⟩:=h.en p n hk;refine⟨y,hy,hf.sw,by rw[l];exact hf.lt,fun s => ?_⟩;have h1:=hf.fr s;unfold MC at h1 ⊢;have e:aF (setFr m g (jP (aD m g) P d)) p n=aF m p n:=rfl;rw[e,(j _).1,(j _).2.1,(j _).2.2];exact h1
 ·rw[(j _).1];exact h.cf i (by rw[←l];exact hi)
 ·rw[(j _).2.1] at h0;exact h.fc i (by rw[←l];exact hi) h0
 ·rw[o]
  by_cases e:c.k.toNat=g
  ·rw[if_pos e];exact (ht c b e).1
  ·rw[if_neg e];exact hc.tail c b
 ·rw[o] at a ⊢
  by_cases e:c.k.toNat=g
  ·rw[if_pos e] at a ⊢;rcases (ht c b e).2 with h1|h1
   ·have h2:d=false:=a;rw[h1] at h2;cases h2
   ·exact h1
  ·rw[if_neg e] at a ⊢; exact hc.clean c b a
 rw[o] at a ⊢
 by_cases e:i=g
 ·rw[if_pos e] at a ⊢;exact hd a
 ·rw[if_neg e] at a ⊢; exact hc.anon i (by rw[←l];exact hi) a
theorem Tp (h:Rt m) (hc:Co m) {g:Nat} (hg:g<m.m.fs.length) (hr:(aD m g).r≠0) (hf:0≤(aD m g).f):Rt (setFr m g (jP (aD m g) (aD m g).p true))∧Co (setFr m g (jP (aD m g) (aD m g).p true))∧EG m (setFr m g (jP (aD m g) (aD m g).p true)):=by
 have h1:=QH (P:=(aD m g).p) (d:=true) h hc hg hr (fun c b e=>⟨by have:=hc.tail c b;rw[e] at this;exact this,.inl rfl⟩) (fun _=>hf);have a:∀x,(aD (setFr m g (jP (aD m g) (aD m g).p true)) x).p=(aD m x).p∧(aD (setFr m g (jP (aD m g) (aD m g).p true)) x).f=(aD m x).f:=fun x=>by
  rw[fK hg]
  by_cases e:x=g
  ·rw[if_pos e,e];exact⟨rfl,rfl⟩
  ·rw[if_neg e];exact⟨rfl,rfl⟩
 exact⟨h1.1,h1.2,⟨fE.of rfl,rfl,fun _=>rfl,fun _=>rfl,fun p n=>xB rfl rfl rfl rfl a rfl ⟨rfl,rfl⟩,fun f i _=>AV (m:=m) (m':=setFr m g (jP (aD m g) (aD m g).p true)) rfl rfl rfl (fun x=>(a x).1) f i⟩⟩
theorem MX (h:Rt m) (hc:Co m) (hk:(aF m p n).k=1) (hn:(aF m p n).n=f) (hg:dQ m p n=some g) (hw:g.wr=true) (hs:g.sh=true∨(aD m f).f<0∧(aD m f).r=1) :
  Rt (aO m p n ⟨1,f,true⟩)∧Co (aO m p n ⟨1,f,true⟩)∧EG m (aO m p n ⟨1,f,true⟩):=by
 obtain⟨f',e1,hf,hr,hp,hb,g0,u,l⟩:=gy h hk;rw[hg] at u;cases u;have:f' = f:=by omega
 subst this;have w:gV ⟨1,f',true⟩=0:=(cz _).2 (.inr (.inl ⟨rfl,by show (0:Int)≤f'; omega,by have:=((dN _).1 h.pt.fr).1;show (f' : Int)<40;omega⟩));obtain⟨o,_,z⟩:=fO (k:=⟨m,0⟩) (p:=p) (n:=n) (x:=⟨1,f',true⟩) h.pt hb w;have b:∀q j,aF (aO m p n ⟨1,f',true⟩) q j=if q=p∧j=n then ⟨1,f',true⟩ else aF m q j:=fun q j=>jS hp o q j;have v:∀q j,alike (aF m q j) (aF (aO m p n ⟨1,f',true⟩) q j):=fun q j=>by
  rw[b]
  by_cases e:q=p∧j=n
  ·rw[if_pos e,e.1,e.2];exact⟨hk.symm,hn.symm⟩
  ·rw[if_neg e];exact⟨rfl,rfl⟩
 have c:∀kd i,bN (aO m p n ⟨1,f',true⟩) kd i=bN m kd i:=fun kd i=>by
  have h1:=pF hp o kd i;have h2:sU (qM kd i (aF m p n))=sU (qM kd i ⟨1,f',true⟩):=by rw[nY,nY,hk,hn]
  unfold aO;have h3:bN ({ m:=m,e:=0 }:Kp).m kd i=bN m kd i:=rfl;have h4:aF ({ m:=m,e:=0 }:Kp).m p n=aF m p n:=rfl;rw[h4,h2] at h1;omega
 have a:fE m (aO m p n ⟨1,f',true⟩):=fE.setTb;refine⟨⟨z,h.trim,fun q hq => ?_,⟨h.ca.file,h.ca.lt,h.ca.fr,h.ca.srt⟩,fun q j t => ?_,fun i hi=>by rw[c];exact h.cf i hi,h.fc,fun s hs=>by rw[c];exact h.cs s hs⟩,⟨hc.tail,hc.clean,hc.anon⟩,⟨a,rfl,fun _=>rfl,fun _=>rfl,fun q j=>xB rfl rfl rfl rfl (fun _=>⟨rfl,rfl⟩) (a.ar q) (v q j),fun _ _ _=>rfl⟩⟩
 ·rw[a.lv] at hq;obtain⟨a1,a2⟩:=h.live q hq;refine⟨by rw[a.ar];exact a1,fun j=>by rw[(v q j).1];exact a2 j⟩
 have ha:dQ (aO m p n ⟨1,f',true⟩) q j=dQ m q j:=by unfold dQ;rw[a.ar]
 rw[ha]
 by_cases e:q=p∧j=n
 ·rw[b,if_pos e,e.1,e.2];refine⟨g,hg,fun h'=>absurd (show (1:Int)=2 from h') (by decide),fun _=>by show (f' : Int)<(m.m.fs.length:Int);omega,fun _ => ?_⟩;obtain⟨f1,f2,f3,f4,f5⟩:=l;refine⟨f1,f2,fun _=>hw,fun _ h0 => ?_,fun _ h0 => ?_⟩
  ·rcases hs with hs|hs
   ·exact hs
   have:(aD m f').f<0:=hs.1;have:0≤(aD m f').f:=h0;omega
  rcases hs with hs|hs
  ·have:=f2 hs;have:(aD m f').f<0:=h0;omega
  show (aD m f').r≤1;omega
 rw[b,if_neg e] at t ⊢;obtain⟨y,hy,d⟩:=h.en q j t;exact⟨y,hy,d.sw,d.lt,d.fr⟩
theorem Wn {t u:Tb} (ht:dR t=0) (hu:dR u=0) (h:∀n,dB t n=dB u n):t=u:=by
 rw[←DF ht,←DF hu];unfold fC;congr 1;exact yY fun n _=>h n
theorem ME (h:Pt m) {x y:En} (hp:p<m.sp.length) (hn:0≤n∧n<64) (hx:gV x=0) (hy:gV y=0):aO (aO m p n y) p n x=aO m p n x:=by
 have h1:=BP (h.tbN p) hn hy;have h2:=BP (h.tbN p) hn hx;have h3:=BP (rz h1) hn hx;unfold aO;have e1:bE (setTb m p (setT (bE m p).tb n y)) p = { bE m p with tb:=setT (bE m p).tb n y }:=by rw[Av hp,if_pos rfl]
 rw[e1];have e2:setT (setT (bE m p).tb n y) n x=setT (bE m p).tb n x:=Wn (rz h3) (rz h2) fun j=>by
  rw[zF h3,zF h2,zF h1]
  by_cases e:j=n
  ·rw[if_pos e,if_pos e]
  ·rw[if_neg e,if_neg e,if_neg e]
 show setTb (setTb m p (setT (bE m p).tb n y)) p (setT (setT (bE m p).tb n y) n x)=_;rw[e2];unfold setTb;simp only[Hz];have e3:bE ({ m with sp:=m.sp.set p { bE m p with tb:=setT (bE m p).tb n y } }:Ma) p = { bE m p with tb:=setT (bE m p).tb n y }:=e1;rw[e3]
def jo (m:Ma) (p:Nat) (n:Int):Ar:=(bE m p).ar.getD (eQ (bE m p).ar n).toNat zAr
def ng (m:Ma) (p:Nat) (n:Int) (w:Bool):Int:=if eQ (bE m p).ar n<0 then 5 else if (w=true∧(jo m p n).wr=false)∨(w=false∧(jo m p n).rd=false) then 8 else 0
def WF (r:Kp × Int) (p:Nat) (n:Int) (w:Bool):Kp × Int:=if r.2<0 then r else (cZ r.1 p n ⟨1,r.2,w⟩,r.2)
def gz (k:Kp) (p:Nat) (n:Int) (a:Ar):Kp × Int:=
 let e:=aF k.m p n
 if e.k=1 then (k,e.n)
 else if e.k=2 then
  if aK k.m.sw e.n≠0 then (k,-1) else
  let r:=eP k (dP k.m.sw e.n) (-1) 0
  if r.2<0 then (r.1,-1) else
  if bA r.1.m.sl e.n (-1)≠0 then (r.1,-1) else (cZ ⟨{ r.1.m with sl:=aU r.1.m.sl e.n (-1) },r.1.e⟩ p n ⟨1,r.2,a.wr⟩,r.2)
 else if a.fi<0 then WF (eP k zPg (-1) 0) p n a.wr
 else
  let r:=fw k a.fi (a.ba+n-a.fr)
  if r.2<0 then r else (cZ (dK r.1 r.2 1) p n ⟨1,r.2,a.sh&&a.wr⟩,r.2)
def ve (k:Kp) (p:Nat) (n:Int) (f:Int) (a:Ar):Kp × Int:=
 let x:=gL k.m f
 if a.sh=true∨x.f<0∧x.r=1 then (cZ k p n ⟨1,f,true⟩,f) else
 let r:=eP (iG k p n) x.p (-1) 0
 if r.2<0 then (r.1,-1) else (cZ r.1 p n ⟨1,r.2,true⟩,r.2)
def kS (m:Ma) (p:Nat) (n:Int) (w:Bool):Kp × Int:=
 let r:=gz ⟨m,0⟩ p n (jo m p n)
 if 0≤r.2∧w=true∧(aF r.1.m p n).w=false then ve r.1 p n r.2 (jo m p n) else r
def Fe (k:Kp) (f:Int) (d:Bool):Kp:=let m1:=setFr k.m f.toNat (kC (aD k.m f.toNat));⟨if d=true then setFr m1 f.toNat (jP (aD m1 f.toNat) (aD m1 f.toNat).p true) else m1,k.e⟩
def copied (m:Ma) (p:Nat) (n:Int):Bool:=decide ((aF m p n).k=2)||(decide ((aF m p n).k=1)&&decide ((gL m (aF m p n).n).f<0))
def mg (m:Ma) (p n:Int) (w:Bool):Int:=
 if jl m≠0 then jl m else if p<0∨(m.sp.length:Int)≤p∨(bE m p.toNat).lv=false then 5 else if ng m p.toNat n w≠0 then ng m p.toNat n w
 else if 0≤(jo m p.toNat n).fi∧copied m p.toNat n=false∧nZ m.st (jo m p.toNat n).fi ((jo m p.toNat n).ba+n-(jo m p.toNat n).fr)=true then 9
 else if (kS m p.toNat n w).2<0 then 10 else (kS m p.toNat n w).1.e
def pR (m:Ma) (p n:Int) (w:Bool):Ma:=(Fe (kS m p.toNat n w).1 (kS m p.toNat n w).2 (w&&(jo m p.toNat n).sh)).m
def ui (m:Ma) (p n:Int) (w:Bool):Int:=(kS m p.toNat n w).2
theorem vD (hg:dQ m p n=some g):g=vQ (jo m p n) n∧0≤eQ (bE m p).ar n∧(jo m p n).sh=g.sh∧(jo m p n).wr=g.wr∧(jo m p n).rd=g.rd∧(jo m p n).fi=g.fi∧(0≤g.fi→(jo m p n).ba+n-(jo m p n).fr=g.pg):=by
 have h1:0≤eQ (bE m p).ar n:=(yQ _ _).2 (by unfold dQ at hg;rw[hg];simp);have h2:=(zQ h1).1;unfold dQ at hg;rw[hg] at h2;have h3:=aT h2;refine⟨h3,h1,by rw[h3];rfl,by rw[h3];rfl,by rw[h3];rfl,by rw[h3];rfl,fun h0 => ?_⟩;rw[h3] at h0 ⊢;have a : 0≤(jo m p n).fi:=h0;show _=if 0≤(jo m p n).fi then _ else _;rw[if_pos a];rfl
theorem DZ (h:Rt m) {x:Nat} (hx:x<m.m.fs.length) (hz:(aD m x).r=0):(∀c∈m.ca,c.k.toNat≠x)∧∀p n,(aF m p n).k=1→(aF m p n).n.toNat≠x:=by
 refine⟨fun c a e => ?_,fun p n hk e => ?_⟩
 ·have:=(h.ca.fr c a).1;rw[e] at this;omega
 have:=Cn h hk e;have:=h.cf x hx;omega
theorem Dk (h:Rt m) (hc:Co m) {x:Nat} {P:Page} {w:Bool} (hp:p<m.sp.length) (hn:0≤n∧n<64) (h0:(aF m p n).k=0) (hx:x<m.m.fs.length) (hz:(aD m x).r=0) (hg:dQ m p n=some g) (hsh:g.sh=false) (hw:w=true→g.wr=true) :
  Rt (aO (setFr m x (bz P (-1) 0)) p n ⟨1,x,w⟩)∧Co (aO (setFr m x (bz P (-1) 0)) p n ⟨1,x,w⟩)∧vP (Xn p n) m (aO (setFr m x (bz P (-1) 0)) p n ⟨1,x,w⟩)∧iO (aO (setFr m x (bz P (-1) 0)) p n ⟨1,x,w⟩) p n=(P,true,0) ∧
   ∀q j,aF (aO (setFr m x (bz P (-1) 0)) p n ⟨1,x,w⟩) q j=if q=p∧j=n then ⟨1,x,w⟩ else aF m q j:=by
 have u:bU (bz P (-1) 0)=0:=by rw[dJ];exact⟨⟨by show (0:Int)≤1;decide,by show (1:Int)≤1000;decide,by show (-1:Int)≤-1;decide,by show (-1:Int)<5;decide,by show (0:Int)≤0;decide,by show (0:Int)<12;decide⟩,fun (e:(1:Int)=0)=>absurd e (by decide),fun _=>rfl⟩
 have z:gV ⟨1,x,w⟩=0:=(cz _).2 (.inr (.inl ⟨rfl,by show (0:Int)≤x;omega,by have:=((dN _).1 h.pt.fr).1;show (x:Int)<40;omega⟩));have hh:=DZ h hx hz;obtain⟨a1,a2⟩:=yC (X:=bz P (-1) 0) (x:=⟨1,x,w⟩) (g:=g) h hc hp hn h0 hx rfl rfl u (by rw[hz];rfl) (fun h'=>absurd hz h') (fun _=>⟨by show (-1:Int)<0;decide,rfl⟩) (fun _ q j l hb=>absurd hb (hh.2 q j l)) hg ⟨fun (e:(0:Int)≤-1)=>absurd e (by decide),fun e=>(by rw[hsh] at e;cases e),hw,fun _ (e:(0:Int)≤-1)=>absurd e (by decide),fun _ _=>by show (1:Int)≤1;decide⟩;obtain⟨s0,_,_⟩:=fO (k:=⟨setFr m x (bz P (-1) 0),0⟩) (p:=p) (n:=n) (x:=⟨1,x,w⟩) (h.pt.setFr u) hn z;have d:∀q j,aF (aO (setFr m x (bz P (-1) 0)) p n ⟨1,x,w⟩) q j=if q=p∧j=n then ⟨1,x,w⟩ else aF m q j:=fun q j=>jS (m:=setFr m x (bz P (-1) 0)) hp s0 q j;have o:∀y,aD (aO (setFr m x (bz P (-1) 0)) p n ⟨1,x,w⟩) y=if y=x then bz P (-1) 0 else aD m y:=fun y=>fK hx y;have s:fE m (setFr m x (bz P (-1) 0)):=fE.of rfl;have t:fE m (aO (setFr m x (bz P (-1) 0)) p n ⟨1,x,w⟩):=s.trans fE.setTb;have i:∀a b,aR (aO (setFr m x (bz P (-1) 0)) p n ⟨1,x,w⟩) a b=aR m a b:=by
  intro a b;rcases kL m a b with ⟨c,hl,hcm,hcf,hci⟩|⟨hl,hno⟩
  ·subst hcf;subst hci;rw[eG h.ca hcm,eG a1.ca hcm,o,if_neg (hh.1 c hcm)]
  ·rw[eu hno,eu (m:=aO (setFr m x (bz P (-1) 0)) p n ⟨1,x,w⟩) hno];rfl
 refine⟨a1,a2,Hu t (lm.refl _) (fun a b _=>i a b) fun q j y v hy => ?_,?_,d⟩
 ·rw[d,if_neg (show ¬(q=p∧j=n) from v)];refine oW h.pt.st (h.pt.pg hy).1 (lm.refl _) (fun a b _=>i a b) (fun l => ?_) (fun _=>⟨rfl,rfl⟩);have:=o (aF m q j).n.toNat;rw[if_neg (hh.2 q j l)] at this;exact⟨congrArg Fr.p this,congrArg Fr.f this⟩
 have ha:dQ (aO (setFr m x (bz P (-1) 0)) p n ⟨1,x,w⟩) p n=some g:=by
  have:dQ (aO (setFr m x (bz P (-1) 0)) p n ⟨1,x,w⟩) p n=dQ m p n:=by unfold dQ;rw[t.ar]
  rw[this,hg]
 rw[iL ha,d,if_pos ⟨rfl,rfl⟩];have:=o x;rw[if_pos rfl] at this;unfold uo;rw[if_pos rfl];have h2:gL (aO (setFr m x (bz P (-1) 0)) p n ⟨1,x,w⟩) (x:Int)=bz P (-1) 0:=this;show ((gL _ (x:Int)).p,decide ((gL _ (x:Int)).f<0),(0:Int))=_;rw[h2];rfl
theorem UO (h:Rt m) (hc:Co m) {c:Cc} {w:Bool} (hp:p<m.sp.length) (hn:0≤n∧n<64) (h0:(aF m p n).k=0) (hcm:c∈m.ca) (hg:dQ m p n=some g) (hf:c.f=g.fi∧c.i=g.pg) (hw:w=true→g.sh=true∧g.wr=true) :
  Rt (aO (setFr m c.k.toNat (iY (aD m c.k.toNat))) p n ⟨1,c.k,w⟩)∧Co (aO (setFr m c.k.toNat (iY (aD m c.k.toNat))) p n ⟨1,c.k,w⟩)∧EG m (aO (setFr m c.k.toNat (iY (aD m c.k.toNat))) p n ⟨1,c.k,w⟩) ∧
   ∀q j,aF (aO (setFr m c.k.toNat (iY (aD m c.k.toNat))) p n ⟨1,c.k,w⟩) q j=if q=p∧j=n then ⟨1,c.k,w⟩ else aF m q j:=by
 have z:=h.ca.lt c hcm;have hi:=h.ca.fr c hcm;have s:=h.ca.file c hcm;have a : c.k.toNat<m.m.fs.length:=by omega
 have hh:=h.fewR a;have t:bU (iY (aD m c.k.toNat))=0:=NM (h.pt.frE a) (by omega) (by omega);have u:gV ⟨1,c.k,w⟩=0:=(cz _).2 (.inr (.inl ⟨rfl,z.1,by have:=((dN _).1 h.pt.fr).1;show c.k<40;omega⟩));have e1:(iY (aD m c.k.toNat)).f=(aD m c.k.toNat).f:=rfl;have e2:(iY (aD m c.k.toNat)).i=(aD m c.k.toNat).i:=rfl;have hd:=s.1.1;obtain⟨a1,a2⟩:=yC (X:=iY (aD m c.k.toNat)) (x:=⟨1,c.k,w⟩) (f:=c.k.toNat) (g:=g) h hc hp hn h0 a rfl (by show c.k=_;omega) t rfl (fun _=>⟨rfl,rfl,rfl,rfl⟩) (fun h'=>by omega) (fun hx=>by omega) hg
  ⟨fun _=>⟨by omega,by omega⟩,fun _=>by omega,fun h'=>(hw h').2,fun h' _=>(hw h').1,fun _ hx=>by omega⟩
 obtain⟨s0,_,_⟩:=fO (k:=⟨setFr m c.k.toNat (iY (aD m c.k.toNat)),0⟩) (p:=p) (n:=n) (x:=⟨1,c.k,w⟩) (h.pt.setFr t) hn u;have b:∀q j,aF (aO (setFr m c.k.toNat (iY (aD m c.k.toNat))) p n ⟨1,c.k,w⟩) q j=if q=p∧j=n then ⟨1,c.k,w⟩ else aF m q j:=fun q j=>jS (m:=setFr m c.k.toNat (iY (aD m c.k.toNat))) hp s0 q j;have d:∀y,(aD (aO (setFr m c.k.toNat (iY (aD m c.k.toNat))) p n ⟨1,c.k,w⟩) y).p=(aD m y).p∧(aD (aO (setFr m c.k.toNat (iY (aD m c.k.toNat))) p n ⟨1,c.k,w⟩) y).f=(aD m y).f:=fun y=>by
  have:aD (aO (setFr m c.k.toNat (iY (aD m c.k.toNat))) p n ⟨1,c.k,w⟩) y=if y=c.k.toNat then iY (aD m c.k.toNat) else aD m y:=fK a y;rw[this]
  by_cases e:y=c.k.toNat
  ·rw[if_pos e,e];exact⟨rfl,rfl⟩
  ·rw[if_neg e];exact⟨rfl,rfl⟩
 have o:fE m (setFr m c.k.toNat (iY (aD m c.k.toNat))):=fE.of rfl;have l:fE m (aO (setFr m c.k.toNat (iY (aD m c.k.toNat))) p n ⟨1,c.k,w⟩):=o.trans fE.setTb;refine⟨a1,a2,⟨l,rfl,fun _=>rfl,fun _=>rfl,fun q j => ?_,fun f i _=>AV (m:=m) (m':=aO (setFr m c.k.toNat (iY (aD m c.k.toNat))) p n ⟨1,c.k,w⟩) rfl rfl rfl (fun x=>(d x).1) f i⟩,b⟩
 by_cases e:q=p∧j=n
 ·obtain⟨rfl,rfl⟩:=e;have v:dQ (aO (setFr m c.k.toNat (iY (aD m c.k.toNat))) q j ⟨1,c.k,w⟩) q j=some g:=by
   have:dQ (aO (setFr m c.k.toNat (iY (aD m c.k.toNat))) q j ⟨1,c.k,w⟩) q j=dQ m q j:=by unfold dQ;rw[l.ar]
   rw[this,hg]
  rw[iL v,iL hg,b,if_pos ⟨rfl,rfl⟩];unfold uo;rw[if_pos rfl,if_neg (by omega),if_neg (by omega),if_neg (by omega)];have r:=oF h.pt.st s;rw[hf.1,hf.2] at r;rw[if_neg r,←hf.1,←hf.2,eG h.ca hcm];have h1:=(d c.k.toNat).1;have h2:=(d c.k.toNat).2;have hb : (gL (aO (setFr m c.k.toNat (iY (aD m c.k.toNat))) q j ⟨1,c.k,w⟩) c.k).p=(aD m c.k.toNat).p:=h1;have ha : (gL (aO (setFr m c.k.toNat (iY (aD m c.k.toNat))) q j ⟨1,c.k,w⟩) c.k).f=(aD m c.k.toNat).f:=h2;show ((gL _ c.k).p,decide ((gL _ c.k).f<0),(0:Int))=_;rw[hb,ha,decide_eq_false (by omega)]
 refine xB rfl rfl rfl rfl d (l.ar q) ?_;rw[b,if_neg e];exact⟨rfl,rfl⟩
theorem Bb (h:Rt m) (hc:Co m) (h' : Rt m') (hc' : Co m') {x:Nat} {X:Fr} (hx:x<m.m.fs.length) (hz:(aD m x).r=0) (st:m'.st=m.st) (dk:m'.dk=m.dk) (ca:m'.ca=m.ca) (hm:m'.m=(setFr m x X).m):Inv m m':=
 wO h hc h' hc' st dk ca fun c hcm=>by have h1:=(DZ h hx hz).1 c hcm;rw[tu hm,fK hx,if_neg h1];exact⟨rfl,rfl⟩
theorem Sz (h:Rt m) (hc:Co m) (h' : Rt m') (hc' : Co m') {x:Nat} (hx:x<m.m.fs.length) (st:m'.st=m.st) (dk:m'.dk=m.dk) (ca:m'.ca=m.ca) (hm:m'.m=(setFr m x (iY (aD m x))).m):Inv m m':=
 wO h hc h' hc' st dk ca fun c hcm=>by
  rw[tu hm,fK hx]
  by_cases e:c.k.toNat=x
  ·rw[if_pos e,e];exact⟨rfl,rfl⟩
  ·rw[if_neg e];exact⟨rfl,rfl⟩
structure Yn (m m' : Ma) (p:Nat) (n:Int) (g:Pg) (r:Int):Prop where
 rt:Rt m'
 co:Co m'
 vis:vP (Xn p n) m m'
 len:m'.m.fs.length=m.m.fs.length
 sll:m'.sl.length=m.sl.length
 no:r<0→fB m.m.fs=0
 yes:0≤r→(aF m' p n).k=1∧(aF m' p n).n=r∧(iO m' p n).1=(iO m p n).1∧(iO m' p n).2.2=0∧(iO m p n).2.2=0∧(0≤g.fi→(iO m' p n).2.1=(iO m p n).2.1)
 keep:(aF m p n).k=1→m' = m∧r=(aF m p n).n
 inv:Inv m m'
theorem rQ (hg:dQ m p n=some g) (hk:(aF m p n).k=1):iO m p n=((gL m (aF m p n).n).p,decide ((gL m (aF m p n).n).f<0),0):=by
 rw[iL hg];unfold uo;rw[if_pos hk]
theorem za {k:Kp} (h:Rt k.m) (hc:Co k.m) (hp:p<k.m.sp.length) (hg:dQ k.m p n=some g) (hf:0≤g.fi→(aF k.m p n).k=0→ni k.m.st g.fi g.pg) :
  (gz k p n (jo k.m p n)).1.e=k.e∧Yn k.m (gz k p n (jo k.m p n)).1.m p n g (gz k p n (jo k.m p n)).2:=by
 obtain⟨g1,g2,g3,g4,g5,g6,g7⟩:=vD hg;have hb:=h.pt.pg hg;have hn:0≤n∧n<64:=hb.2.2.2.2.2;have hE:=(cz _).1 (jL h.pt p n);have v:∀P:Page,bU (bz P (-1) 0)=0:=fun P=>by rw[dJ];exact⟨⟨by show (0:Int)≤1;decide,by show (1:Int)≤1000;decide,by show (-1:Int)≤-1;decide,by show (-1:Int)<5;decide,by show (0:Int)≤0;decide,by show (0:Int)<12;decide⟩,fun (e:(1:Int)=0)=>absurd e (by decide),fun _=>rfl⟩
 have t:∀ {m:Ma} {x:Nat},aD m x=frZ→(aD m x).r=0:=fun e=>by rw[e];rfl
 have u:∀(x:Nat) (w:Bool),x<k.m.m.fs.length→gV ⟨1,x,w⟩=0:=fun x w hx=>(cz _).2 (.inr (.inl ⟨rfl,by show (0:Int)≤x;omega,by have:=((dN _).1 h.pt.fr).1;show (x:Int)<40;omega⟩));unfold gz;simp only
 by_cases k1:(aF k.m p n).k=1
 ·rw[if_pos k1];refine⟨rfl,h,hc,.refl _ _,rfl,rfl,fun h0=>by simp only at h0;omega,fun _=>⟨k1,rfl,rfl,?_,?_,fun _=>rfl⟩,fun _=>⟨rfl,rfl⟩,.refl _⟩
  ·show (iO k.m p n).2.2=0;rw[rQ hg k1]
  ·rw[rQ hg k1]
 rw[if_neg k1]
 by_cases k2:(aF k.m p n).k=2
 ·rw[if_pos k2];obtain⟨y,hy,hu⟩:=h.en p n (by omega);rw[hg] at hy;cases hy;have hJ:=hu.sw k2;have hs:(aF k.m p n).n.toNat<k.m.sl.length:=by omega
  have hd:(aF k.m p n).n=(((aF k.m p n).n.toNat:Nat):Int):=by omega
  have hq:aK k.m.sw (aF k.m p n).n=0:=iV.2 ⟨h.pt.sw,by omega,by rw[h.pt.swl];omega⟩;rw[if_neg (by rw[hq];simp)];have l:iO k.m p n=(dP k.m.sw (aF k.m p n).n,true,0):=by rw[iL hg];unfold uo;rw[if_neg k1,if_pos k2,hq]
  rcases zJ (k:=k) (p:=dP k.m.sw (aF k.m p n).n) (f:=-1) (i:=0) h hc (v _) with ⟨x,m1,o,hF,hx,hz,ht⟩|⟨m1,hF,ht,h0⟩
  ·rw[ht];simp only;rw[if_neg (by omega)];have b:aF m1 p n=aF k.m p n:=hF.ents p n (fun e=>absurd e k1);have q:dQ m1 p n=some g:=(show dQ m1 p n=dQ k.m p n by unfold dQ;rw[hF.vis.sk.ar]).trans hg;have hk:(aF k.m p n).n.toNat<m1.sl.length:=by rw[hF.sll];exact hs
   have hw:=hF.rt.fewS hk;have j:=kE (m:=m1) (p:=p) (n:=n) (by rw[b];omega);have hP:0<bN m1 2 ((aF k.m p n).n.toNat:Nat):=(ji (by decide)).2 ⟨p,n,j.1,j.2,by rw[b];exact k2,by rw[b];omega⟩;have hQ:=hF.rt.cs _ hk;have hC:bA m1.sl (((aF k.m p n).n.toNat:Nat):Int) (-1)=0:=by have e1:Dg m1.sl (((aF k.m p n).n.toNat:Nat):Int)=iI m1 (aF k.m p n).n.toNat:=rfl;unfold bA;rw[if_neg (by rw[hF.rt.pt.sl];simp),if_neg (by rw[e1];omega),if_neg (by rw[e1];omega)]
   have a:=FT hF.rt hF.co (p:=p) (n:=n) (s:=(aF k.m p n).n.toNat) (by rw[b];exact k2) (by rw[b];exact hd);have hH:aU (setFr m1 x (bz (dP k.m.sw (aF k.m p n).n) (-1) 0)).sl (aF k.m p n).n (-1)=(setSl m1 (aF k.m p n).n.toNat (iI m1 (aF k.m p n).n.toNat + -1)).sl:=by unfold aU;rw[if_pos (by rw[hd];exact hC)];rfl
   rw[if_neg (by rw[hd];exact fun e=>e hC),hH];have hm:p<m1.sp.length:=j.1;obtain⟨b1,b2,b3,b4,b5⟩:=Dk (P:=dP k.m.sw (aF k.m p n).n) (w:=(jo k.m p n).wr) (x:=x) (g:=g) (p:=p) (n:=n) a.rt a.co (by rw[a.vis.sk.len];exact hm) hn (by rw[a.ents,if_pos ⟨rfl,rfl⟩];rfl) (by rw[a.len];exact hx) (t (m:=m1) hz) (by
    have:dQ (aO (setSl m1 (aF k.m p n).n.toNat (iI m1 (aF k.m p n).n.toNat + -1)) p n zEn) p n=dQ m1 p n:=by unfold dQ;rw[a.vis.sk.ar]
    rw[this,q]) hJ.2 (fun e=>by rw[←g4];exact e)
   have c:x<k.m.m.fs.length:=by rw[←hF.len];exact hx
   have ha:Pt (setFr (setSl m1 (aF k.m p n).n.toNat (iI m1 (aF k.m p n).n.toNat + -1)) x (bz (dP k.m.sw (aF k.m p n).n) (-1) 0)):=(hF.rt.pt.setSl (by omega) (by omega)).setFr (v _);have hG:=ME (m:=setFr (setSl m1 (aF k.m p n).n.toNat (iI m1 (aF k.m p n).n.toNat + -1)) x (bz (dP k.m.sw (aF k.m p n).n) (-1) 0)) ha (p:=p) (n:=n) (x:=⟨1,x,(jo k.m p n).wr⟩) (y:=zEn) hm hn (u x _ c) (by decide);obtain⟨s0,c1,c2⟩:=fO (k:=⟨setFr (setSl m1 (aF k.m p n).n.toNat (iI m1 (aF k.m p n).n.toNat + -1)) x (bz (dP k.m.sw (aF k.m p n).n) (-1) 0),k.e⟩) (p:=p) (n:=n) (x:=⟨1,x,(jo k.m p n).wr⟩) ha hn (u x _ c);have hv:cZ ⟨{ setFr m1 x (bz (dP k.m.sw (aF k.m p n).n) (-1) 0) with sl:=(setSl m1 (aF k.m p n).n.toNat (iI m1 (aF k.m p n).n.toNat + -1)).sl },k.e⟩ p n ⟨1,x,(jo k.m p n).wr⟩=⟨aO (setFr (aO (setSl m1 (aF k.m p n).n.toNat (iI m1 (aF k.m p n).n.toNat + -1)) p n zEn) x (bz (dP k.m.sw (aF k.m p n).n) (-1) 0)) p n ⟨1,x,(jo k.m p n).wr⟩,k.e⟩:=by refine Eq.trans c1 (congrArg (fun m=>Kp.mk m k.e) ?_);exact hG.symm
   rw[hv];refine⟨rfl,b1,b2,((hF.vis.x _).trans a.vis).trans b3,?_,?_,fun h0=>by simp only at h0;omega,fun _ => ?_,fun e=>absurd e k1,(hF.inv.trans (a.inv hF.rt hF.co)).trans (Bb a.rt a.co b1 b2 (x:=x) (X:=bz (dP k.m.sw (aF k.m p n).n) (-1) 0) (by rw[a.len];exact hx) (t (m:=m1) hz) rfl rfl rfl rfl)⟩
   ·exact (dw.trans a.len).trans hF.len
   ·exact a.sll.trans hF.sll
   rw[b4,b5,if_pos ⟨rfl,rfl⟩,l];exact⟨rfl,rfl,rfl,rfl,rfl,fun _=>rfl⟩
  rw[ht];simp only;rw[if_pos (by decide)];exact⟨rfl,hF.rt,hF.co,hF.vis.x _,hF.len,hF.sll,fun _=>h0,fun h'=>absurd (show (0:Int)≤-1 from h') (by decide),fun e=>absurd e k1,hF.inv⟩
 rw[if_neg k2];have k0:(aF k.m p n).k=0:=by omega
 by_cases hfi:g.fi<0
 ·rw[g6,if_pos hfi];have hI:=(hb.2.2.2.2.1 hfi).1;have l:iO k.m p n=(zPg,false,0):=by rw[iL hg];unfold uo;rw[if_neg k1,if_neg k2,if_pos hfi]
  unfold WF;rcases zJ (k:=k) (p:=zPg) (f:=-1) (i:=0) h hc (v _) with ⟨x,m1,o,hF,hx,hz,ht⟩|⟨m1,hF,ht,h0⟩
  ·rw[ht];simp only;rw[if_neg (by omega)];have b:aF m1 p n=aF k.m p n:=hF.ents p n (fun e=>absurd e k1);have q:dQ m1 p n=some g:=(show dQ m1 p n=dQ k.m p n by unfold dQ;rw[hF.vis.sk.ar]).trans hg;have c:x<k.m.m.fs.length:=by rw[←hF.len];exact hx
   obtain⟨b1,b2,b3,b4,b5⟩:=Dk (P:=zPg) (w:=(jo k.m p n).wr) (x:=x) (g:=g) (p:=p) (n:=n) hF.rt hF.co (by rw[hF.vis.sk.len];exact hp) hn (by rw[b];exact k0) hx (t hz) q hI (fun e=>by rw[←g4];exact e);obtain⟨s0,c1,c2⟩:=fO (k:=⟨setFr m1 x (bz zPg (-1) 0),k.e⟩) (p:=p) (n:=n) (x:=⟨1,x,(jo k.m p n).wr⟩) (hF.rt.pt.setFr (v _)) hn (u x _ c);rw[c1];refine⟨rfl,b1,b2,(hF.vis.x _).trans b3,dw.trans hF.len,hF.sll,fun h0=>by simp only at h0;omega,fun _ => ?_,fun e=>absurd e k1,hF.inv.trans (Bb hF.rt hF.co b1 b2 (x:=x) (X:=bz zPg (-1) 0) hx (t hz) rfl rfl rfl rfl)⟩;have b4' : iO (setTb (setFr m1 x (bz zPg (-1) 0)) p (setT (bE (setFr m1 x (bz zPg (-1) 0)) p).tb n ⟨1,x,(jo k.m p n).wr⟩)) p n=(zPg,true,0):=b4;have b5':=b5 p n;rw[if_pos ⟨rfl,rfl⟩] at b5';have b5'' : aF (setTb (setFr m1 x (bz zPg (-1) 0)) p (setT (bE (setFr m1 x (bz zPg (-1) 0)) p).tb n ⟨1,x,(jo k.m p n).wr⟩)) p n=⟨1,x,(jo k.m p n).wr⟩:=b5';simp only;rw[b4',b5'',l];exact⟨rfl,rfl,rfl,rfl,rfl,fun h'=>absurd h' (by omega)⟩
  rw[ht];simp only;rw[if_pos (by decide)];exact⟨rfl,hF.rt,hF.co,hF.vis.x _,hF.len,hF.sll,fun _=>h0,fun h'=>absurd (show (0:Int)≤-1 from h') (by decide),fun e=>absurd e k1,hF.inv⟩
 rw[g6,if_neg hfi];have hl:=g7 (by omega);rw[hl];have j:=hf (by omega) k0;obtain⟨he,hB⟩:=FV (k:=k) h hc j
 by_cases hr:(fw k g.fi g.pg).2<0
 ·rw[if_pos hr];exact⟨he,hB.rt,hB.co,hB.vis.x _,hB.len,hB.sll,hB.no,fun h'=>absurd hr (by omega),fun e=>absurd e k1,hB.inv⟩
 rw[if_neg hr];have hh:=hB.yes (by omega);have hM:=hB.rt.ca.lt _ hh;have hO:=hB.rt.ca.fr _ hh;simp only at hM hO;generalize hK:fw k g.fi g.pg=K at *
 have d : K.2.toNat<K.1.m.m.fs.length:=by omega
 have hw:=hB.rt.fewR d;obtain⟨a1,a2⟩:=wu (k:=K.1) (f:=K.2.toNat) (n:=1) hB.rt.pt d (by omega) (by omega) (by omega);have hD:gF (aD K.1.m K.2.toNat) 1=iY (aD K.1.m K.2.toNat):=by unfold gF;rw[if_neg (by omega)];rfl
 rw[hD] at a1 a2;have hA:K.2=((K.2.toNat:Nat):Int):=by omega
 have hj : gV ⟨1,K.2,(jo k.m p n).sh&&(jo k.m p n).wr⟩=0:=by rw[hA];exact u _ _ (by rw[←hB.len];exact d)
 have b:aF K.1.m p n=aF k.m p n:=hB.ents p n k1;have q:dQ K.1.m p n=some g:=(show dQ K.1.m p n=dQ k.m p n by unfold dQ;rw[hB.vis.sk.ar]).trans hg;obtain⟨b1,b2,b3,b4⟩:=UO (w:=(jo k.m p n).sh&&(jo k.m p n).wr) hB.rt hB.co (by rw[hB.vis.sk.len];exact hp) hn (by rw[b];exact k0) hh q ⟨rfl,rfl⟩ (fun e=>by rw[dA,g3,g4] at e;exact e);obtain⟨s0,c1,c2⟩:=fO (k:=⟨setFr K.1.m K.2.toNat (iY (aD K.1.m K.2.toNat)),K.1.e⟩) (p:=p) (n:=n) (x:=⟨1,K.2,(jo k.m p n).sh&&(jo k.m p n).wr⟩) a2 hn hj;have hN:dK K.1 K.2 1=⟨setFr K.1.m K.2.toNat (iY (aD K.1.m K.2.toNat)),K.1.e⟩:=by rw[←a1,←hA]
 rw[hN,c1];have z:=hB.vis.trans b3;have b4':=b4 p n;rw[if_pos ⟨rfl,rfl⟩] at b4';refine⟨he,b1,b2,z.x _,dw.trans hB.len,hB.sll,fun h'=>absurd h' hr,fun _ => ?_,fun e=>absurd e k1,hB.inv.trans (Sz hB.rt hB.co b1 b2 (x:=K.2.toNat) d rfl rfl rfl rfl)⟩;have hs:=z.see p n;have hL : iO (setTb (setFr K.1.m K.2.toNat (iY (aD K.1.m K.2.toNat))) p (setT (bE (setFr K.1.m K.2.toNat (iY (aD K.1.m K.2.toNat))) p).tb n ⟨1,K.2,(jo k.m p n).sh&&(jo k.m p n).wr⟩)) p n=iO k.m p n:=hs;have b5:aF (setTb (setFr K.1.m K.2.toNat (iY (aD K.1.m K.2.toNat))) p (setT (bE (setFr K.1.m K.2.toNat (iY (aD K.1.m K.2.toNat))) p).tb n ⟨1,K.2,(jo k.m p n).sh&&(jo k.m p n).wr⟩)) p n=⟨1,K.2,(jo k.m p n).sh&&(jo k.m p n).wr⟩:=b4';simp only;have hi:(iO k.m p n).2.2=0:=by rw[iL hg];unfold uo;rw[if_neg k1,if_neg k2,if_neg hfi,if_neg (oF h.pt.st j)]
 rw[hL,b5];exact⟨rfl,rfl,rfl,hi,hi,fun _=>rfl⟩
theorem Less.zr (h:Rt m) (k:Less m m' p n) {x:Nat} (hz:(aD m x).r=0):(aD m' x).r=0:=by
 rcases fM x m.m.fs.length with hx|hx
 ·have h1:=h.cf x hx;have h2:=k.rt.cf x (by rw[k.len];exact hx);have h3:tO m' x=tO m x:=by unfold tO;rw[k.ca]
  have h4:¬0<bN m' 1 x:=fun hh=>by
   obtain⟨q,j,a1,a2,a3,a4⟩:=(ji (by decide)).1 hh;have h5:=k.ents q j
   by_cases e:q=p∧j=n
   ·rw[if_pos e] at h5;rw[h5] at a3;exact absurd a3 (by decide)
   rw[if_neg e] at h5;rw[h5] at a3 a4;have:=(ji (m:=m) (kd:=1) (i:=x) (by decide)).2 ⟨q,j,by have:=kE (m:=m) (p:=q) (n:=j) (by omega);exact this.1,a2,a3,a4⟩;omega
  omega
 ·rw[Cu (by rw[k.len];exact hx)];rfl
theorem UF {x:Nat} (hx:x<m.m.fs.length) (hz:(aD m x).r=0):fB m.m.fs≠0:=fun e=>uB e hx hz
structure Yp (m m' : Ma) (p:Nat) (n:Int) (g:Pg) (r:Int):Prop where
 rt:Rt m'
 co:Co m'
 vis:vP (Xn p n) m m'
 len:m'.m.fs.length=m.m.fs.length
 sll:m'.sl.length=m.sl.length
 no:r<0→fB m.m.fs=0
 yes:0≤r→(aF m' p n).k=1∧(aF m' p n).n=r∧(aF m' p n).w=true∧(iO m' p n).1=(iO m p n).1∧(iO m' p n).2.2=0∧(g.sh=true→(iO m' p n).2.1=(iO m p n).2.1)∧(g.sh=false→(iO m' p n).2.1=true)
 inv:Inv m m'
theorem QL {k:Kp} (h:Rt k.m) (hc:Co k.m) {f:Int} (hg:dQ k.m p n=some g) (hk:(aF k.m p n).k=1) (hn:(aF k.m p n).n=f) (hw:g.wr=true) :
  (ve k p n f (jo k.m p n)).1.e=k.e∧Yp k.m (ve k p n f (jo k.m p n)).1.m p n g (ve k p n f (jo k.m p n)).2:=by
 obtain⟨g1,g2,g3,g4,g5,g6,g7⟩:=vD hg;obtain⟨x,e1,hf,hr,hp,q,g0,v,hh⟩:=gy h hk;rw[hg] at v;cases v;have hd:f=(x:Int):=by omega
 subst hd;have d:gL k.m (x:Int)=aD k.m x:=rfl;have a:=rQ hg hk;rw[hn,d] at a;unfold ve;simp only;rw[d]
 by_cases hcs:(jo k.m p n).sh=true∨(aD k.m x).f<0∧(aD k.m x).r=1
 ·rw[if_pos hcs];obtain⟨a1,a2,a3⟩:=MX h hc hk hn hg hw (hcs.imp (fun e=>by rw[←g3];exact e) id);have l:gV ⟨1,x,true⟩=0:=(cz _).2 (.inr (.inl ⟨rfl,by show (0:Int)≤x;omega,by have:=((dN _).1 h.pt.fr).1;show (x:Int)<40;omega⟩));obtain⟨s0,c1,c2⟩:=fO (k:=k) (p:=p) (n:=n) (x:=⟨1,x,true⟩) h.pt q l;rw[c1];have j:=jS hp s0 p n;rw[if_pos ⟨rfl,rfl⟩] at j;have hs:iO (setTb k.m p (setT (bE k.m p).tb n ⟨1,x,true⟩)) p n=iO k.m p n:=a3.see p n;refine⟨rfl,a1,a2,a3.x _,rfl,rfl,fun h'=>absurd (show (x:Int)<0 from h') (by omega),fun _ => ?_,wO h hc a1 a2 rfl rfl rfl fun c _=>⟨rfl,rfl⟩⟩;simp only;rw[j,hs,a];refine⟨rfl,rfl,rfl,rfl,rfl,fun _=>rfl,fun b => ?_⟩;rcases hcs with hcs|hcs
  ·rw[g3,b] at hcs;cases hcs
  ·exact decide_eq_true hcs.1
 rw[if_neg hcs];have b:g.sh=false:=by
  cases e:g.sh with
  | false=>rfl
  | true=>exact absurd (.inl (by rw[g3,e])) hcs
 obtain⟨m1,d1,hL⟩:=Ad h hc p n;rw[d1];have t:bU (bz (aD k.m x).p (-1) 0)=0:=by rw[dJ];exact⟨⟨by show (0:Int)≤1;decide,by show (1:Int)≤1000;decide,by show (-1:Int)≤-1;decide,by show (-1:Int)<5;decide,by show (0:Int)≤0;decide,by show (0:Int)<12;decide⟩,fun (e:(1:Int)=0)=>absurd e (by decide),fun _=>rfl⟩
 rcases zJ (k:=⟨m1,k.e⟩) (p:=(aD k.m x).p) (f:=-1) (i:=0) hL.rt hL.co t with ⟨y,m2,o,hF,hy,hz,ht⟩|⟨m2,hF,ht,h0⟩
 ·rw[ht];simp only;rw[if_neg (by omega)];have z:aF m1 p n=zEn:=by rw[hL.ents,if_pos ⟨rfl,rfl⟩]
  have hi:aF m2 p n=zEn:=(hF.ents p n (fun e=>by have:(aF m1 p n).k=1:=e;rw[z] at this;exact absurd this (by decide))).trans z;have hb:dQ m2 p n=some g:=by
   have:dQ m2 p n=dQ k.m p n:=by unfold dQ;rw[hF.vis.sk.ar,show (bE (Kp.m ⟨m1,k.e⟩) p).ar=(bE k.m p).ar from hL.vis.sk.ar p]
   rw[this,hg]
  have u:m2.sp.length=k.m.sp.length:=hF.vis.sk.len.trans hL.vis.sk.len;have s:m2.m.fs.length=k.m.m.fs.length:=hF.len.trans hL.len;have l:gV ⟨1,y,true⟩=0:=(cz _).2 (.inr (.inl ⟨rfl,by show (0:Int)≤y;omega,by have:=((dN _).1 h.pt.fr).1;show (y:Int)<40;omega⟩));obtain⟨b1,b2,b3,b4,b5⟩:=Dk (P:=(aD k.m x).p) (w:=true) (x:=y) (g:=g) (p:=p) (n:=n) hF.rt hF.co (by rw[u];exact hp) q (by rw[hi];rfl) hy (by rw[hz];rfl) hb b (fun _=>hw);obtain⟨s0,c1,c2⟩:=fO (k:=⟨setFr m2 y (bz (aD k.m x).p (-1) 0),k.e⟩) (p:=p) (n:=n) (x:=⟨1,y,true⟩) (hF.rt.pt.setFr t) q l;rw[c1];have b4' : iO (setTb (setFr m2 y (bz (aD k.m x).p (-1) 0)) p (setT (bE (setFr m2 y (bz (aD k.m x).p (-1) 0)) p).tb n ⟨1,y,true⟩)) p n=((aD k.m x).p,true,0):=b4;have b5':=b5 p n;rw[if_pos ⟨rfl,rfl⟩] at b5';have b5'' : aF (setTb (setFr m2 y (bz (aD k.m x).p (-1) 0)) p (setT (bE (setFr m2 y (bz (aD k.m x).p (-1) 0)) p).tb n ⟨1,y,true⟩)) p n=⟨1,y,true⟩:=b5';refine⟨rfl,b1,b2,(hL.vis.trans (hF.vis.x _)).trans b3,dw.trans s,hF.sll.trans hL.sll,fun h'=>absurd (show (y:Int)<0 from h') (by omega),fun _ => ?_,((hL.inv h hc).trans hF.inv).trans (Bb hF.rt hF.co b1 b2 (x:=y) (X:=bz (aD k.m x).p (-1) 0) hy (by rw[hz];rfl) rfl rfl rfl rfl)⟩;simp only;rw[b4',b5'',a];exact⟨rfl,rfl,rfl,rfl,rfl,fun e=>(by rw[b] at e;cases e),fun _=>rfl⟩
 rw[ht];simp only;rw[if_pos (by decide)];refine⟨rfl,hF.rt,hF.co,hL.vis.trans (hF.vis.x _),hF.len.trans hL.len,hF.sll.trans hL.sll,fun _ => ?_,fun h'=>absurd (show (0:Int)≤-1 from h') (by decide),(hL.inv h hc).trans hF.inv⟩
 by_cases e:fB k.m.m.fs=0
 ·exact e
 obtain⟨y,hy,ha⟩:=OA e;exact absurd h0 (UF (m:=m1) (by rw[hL.len];exact hy) (hL.zr h ha))
structure Wp (m m' : Ma) (p:Nat) (n:Int) (w:Bool) (g:Pg) (r:Int):Prop where
 rt:Rt m'
 co:Co m'
 vis:vP (Xn p n) m m'
 len:m'.m.fs.length=m.m.fs.length
 sll:m'.sl.length=m.sl.length
 k1:(aF m' p n).k=1
 en:(aF m' p n).n=r
 ew:w=true→(aF m' p n).w=true
 see:iO m' p n=((iO m p n).1,(iO m' p n).2.1,0)
 was:(iO m p n).2.2=0
 same:w=false∨g.sh=true→0≤g.fi→(iO m' p n).2.1=(iO m p n).2.1
 own:w=true→g.sh=false→(iO m' p n).2.1=true
 inv:(w&&g.sh)=false→Inv m m'
theorem Cb {w:Bool} (hg:dQ m p n=some g):ng m p n w=0↔(w=true→g.wr=true)∧(w=false→g.rd=true):=by
 obtain⟨g1,g2,g3,g4,g5,g6,g7⟩:=vD hg;unfold ng;rw[if_neg (by omega),g4,g5];cases w<;>cases g.wr<;>cases g.rd<;>decide
theorem Ls (h:Rt m) (hc:Co m) {w:Bool} (hp:p<m.sp.length) (hg:dQ m p n=some g) (hw:w=true→g.wr=true) (hf:0≤g.fi→(aF m p n).k=0→ni m.st g.fi g.pg) :
  (kS m p n w).1.e=0∧(0≤(kS m p n w).2→Wp m (kS m p n w).1.m p n w g (kS m p n w).2)∧((kS m p n w).2<0→fB m.m.fs=0∨fB (gz ⟨m,0⟩ p n (jo m p n)).1.m.m.fs=0):=by
 obtain⟨he,hB⟩:=za (k:=⟨m,0⟩) h hc hp hg hf;unfold kS;simp only at he hB ⊢;generalize hR:gz ⟨m,0⟩ p n (jo m p n)=R at *
 by_cases hcnd:0≤R.2∧w=true∧(aF R.1.m p n).w=false
 ·rw[if_pos hcnd];obtain⟨y1,y2,y3,y4,y6,y5⟩:=hB.yes hcnd.1;have a:dQ R.1.m p n=some g:=(show dQ R.1.m p n=dQ m p n by unfold dQ;rw[hB.vis.sk.ar]).trans hg;have o:jo R.1.m p n=jo m p n:=by unfold jo;rw[hB.vis.sk.ar]
  have hO:=QL (k:=R.1) hB.rt hB.co a y1 y2 (hw hcnd.2.1);rw[o] at hO;obtain⟨l,hO⟩:=hO;refine⟨l.trans he,fun h0 => ?_,fun h0 => .inr (hO.no h0)⟩;obtain⟨z1,z2,z3,z4,z5,z6,z7⟩:=hO.yes h0;refine⟨hO.rt,hO.co,hB.vis.trans hO.vis,hO.len.trans hB.len,hO.sll.trans hB.sll,z1,z2,fun _=>z3,?_,y6,fun hs d => ?_,fun _ hs=>z7 hs,fun _=>hB.inv.trans hO.inv⟩
  ·rw[←y3,←z4,←z5]
  rcases hs with hs|hs
  ·rw[hcnd.2.1] at hs;cases hs
  ·rw[z6 hs,y5 d]
 rw[if_neg hcnd];refine⟨he,fun h0 => ?_,fun h0 => .inl (hB.no h0)⟩;obtain⟨y1,y2,y3,y4,y6,y5⟩:=hB.yes h0;have i:w=true→(aF R.1.m p n).w=true:=fun b=>by
  cases e:(aF R.1.m p n).w with
  | true=>rfl
  | false=>exact absurd ⟨h0,b,e⟩ hcnd
 refine⟨hB.rt,hB.co,hB.vis,hB.len,hB.sll,y1,y2,i,?_,y6,fun _ d=>y5 d,fun b hs => ?_,fun _=>hB.inv⟩
 ·rw[←y3,←y4]
 have a:dQ R.1.m p n=some g:=(show dQ R.1.m p n=dQ m p n by unfold dQ;rw[hB.vis.sk.ar]).trans hg;obtain⟨x,e1,s,hr,q,r,g0,j,c⟩:=gy hB.rt y1;rw[a] at j;cases j;obtain⟨f1,f2,f3,f4,f5⟩:=c;rw[rQ a y1,e1];refine decide_eq_true ?_;show (aD R.1.m x).f<0
 by_cases hx0:0≤(aD R.1.m x).f
 ·have:=f4 (i b) hx0;rw[hs] at this;cases this
 ·omega
theorem Um (h:Rt m) (hc:Co m) {w:Bool} (hp:p<m.sp.length) (hg:dQ m p n=some g) (hw:w=true→g.wr=true) (hf:0≤g.fi→(aF m p n).k=0→ni m.st g.fi g.pg):Inv m (kS m p n w).1.m:=by
 obtain⟨he,hB⟩:=za (k:=⟨m,0⟩) h hc hp hg hf;unfold kS;simp only at he hB ⊢;generalize hR:gz ⟨m,0⟩ p n (jo m p n)=R at *
 by_cases hcnd:0≤R.2∧w=true∧(aF R.1.m p n).w=false
 ·rw[if_pos hcnd];obtain⟨y1,y2,y3,y4,y6,y5⟩:=hB.yes hcnd.1;have a:dQ R.1.m p n=some g:=(show dQ R.1.m p n=dQ m p n by unfold dQ;rw[hB.vis.sk.ar]).trans hg;have b:jo R.1.m p n=jo m p n:=by unfold jo;rw[hB.vis.sk.ar]
  have hO:=QL (k:=R.1) hB.rt hB.co a y1 y2 (hw hcnd.2.1);rw[b] at hO;exact hB.inv.trans hO.2.inv
 ·rw[if_neg hcnd];exact hB.inv
theorem Wp.mark {w:Bool} {r e:Int} (h:Wp m m' p n w g r) (hg:dQ m p n=some g):Wp m (Fe ⟨m',e⟩ r (w&&g.sh)).m p n w g r:=by
 have l:dQ m' p n=some g:=(show dQ m' p n=dQ m p n by unfold dQ;rw[h.vis.sk.ar]).trans hg;obtain⟨x,e1,a,hr,q,s,g0,d,b⟩:=gy h.rt h.k1;rw[l] at d;cases d;have j:r=(x:Int):=by rw[←h.en,e1]
 subst j;obtain⟨a1,a2,a3⟩:=Nq h.rt h.co a hr;have go:∀m2:Ma,Rt m2→Co m2→EG m' m2→m2.m.fs.length=m'.m.fs.length→m2.sl.length=m'.sl.length→aF m2 p n=aF m' p n→((w&&g.sh)=false→Inv m' m2)→Wp m m2 p n w g x:=fun m2 c1 c2 c3 c4 c5 c6 c7=>
  ⟨c1,c2,h.vis.trans (c3.x _),c4.trans h.len,c5.trans h.sll,by rw[c6];exact h.k1,by rw[c6];exact h.en,by rw[c6];exact h.ew,by rw[c3.see];exact h.see,h.was,by rw[c3.see];exact h.same,by rw[c3.see];exact h.own,fun e=>(h.inv e).trans (c7 e)⟩
 unfold Fe;simp only[bG]
 by_cases hd:(w&&g.sh)=true
 ·rw[if_pos hd];rw[dA] at hd;have o:0≤(aD m' x).f:=b.2.1 hd.2;have i:aD (setFr m' x (kC (aD m' x))) x=kC (aD m' x):=by rw[fK a,if_pos rfl]
  obtain⟨b1,b2,b3⟩:=Tp a1 a2 (g:=x) (by rw[dw];exact a) (by rw[i];exact hr) (by rw[i];exact o);exact go _ b1 b2 (a3.trans b3) (dw.trans dw) rfl rfl (fun e=>by rw[hd.1,hd.2] at e;cases e)
 rw[if_neg hd];exact go _ a1 a2 a3 dw rfl rfl (fun _=>wO h.rt h.co a1 a2 rfl rfl rfl fun c _=>by
  rw[fK a]
  by_cases e:c.k.toNat=x
  ·rw[if_pos e,e];exact⟨rfl,rfl⟩
  ·rw[if_neg e];exact⟨rfl,rfl⟩)
theorem PT : (Tryz.prog.info? 186).map (·.size)=some 9:=by kernel_rfl
def EJ (f:Int→Bool) (q:Int × Page):Bool:=!(f q.1)
theorem KW (q:Int × Page) (g gm n:Nat) (f:Int→Bool) (w:World) (hg:aJ w g #[.map (some gm)] 201) (hM:ny w gm n f) (hq : -9223372036854775808≤q.1∧q.1≤9223372036854775807) :
  Calls Tryz.prog 146 #[.agg (Va q),.pointer (some ⟨g,0,none⟩)] w fun r w'=>r = .returned (.bool (EJ f q))∧Below w.heap.size w w':=by
 go_enter func146,ntmps146;go_upto_region 1 with (fail);refine je (fun W=>Code.wp _ _ _ _ W) fun W0 a b c => ?_;clear c;have e:=(hg.ext a).cell 0;have h:=b.cell;have d:=(hM.below a).look q.1 hq;have q0:(Va q)[0]?=some (.int .i64 q.1):=rfl;go_wp2;go_ret;exact⟨rfl,a⟩
theorem SY {l:List (Int × Page)} (h:dV w a (l.flatMap DR)) (k:Nat) (hk:k<l.length):∃b off,a=some ⟨b,off,none⟩∧dV w (some ⟨b,off+k*9,none⟩) (DR l[k]):=nU xO (by decide) h k hk
theorem Ld (l:List (Int × Page)) (a:Option Addr) (c:Nat) (w:World) (hrd:dV w a (l.flatMap DR)) (hl:l.length≤9223372036854775807) (g gm n:Nat) (f:Int→Bool) (hg:aJ w g #[.map (some gm)] 201) (hM:ny w gm n f) (hq:∀q∈l,-9223372036854775808≤q.1∧q.1≤9223372036854775807) :
  Calls Tryz.prog 187 #[.slice a l.length c,.func (.func 146) #[] #[.pointer (some ⟨g,0,none⟩)]] w fun e w'=>e = .returned (.int .i64 (idx (EJ f) l))∧Below w.heap.size w w':=by
 go_enter func187,ntmps187;go_wp2
 go_loopw [8] (fun i wr => ∃k:Nat,k≤l.length∧i = .int .i64 k∧Below w.heap.size w wr∧∀i (h:i<l.length),i<k→(EJ f) l[i]=false) (fun i _=>l.length-(intOf i).toNat)
 case atStart=>exact⟨0,bK _,rfl,Below.refl _ _,fun i _ h=>absurd h (gT _)⟩
 case round=>
  obtain⟨k,hk,rfl,j,p⟩:=hrel;have hp:=ae p;clear p
  by_cases hlt:k<l.length
  ·obtain⟨b,off,rfl,s⟩:=SY (hrd.below j) k hlt
   go_wp2_with (refine aA _ _ rfl b (off+k*9) rfl rfl _ s _ underlying186 rfl PT ?_)
   refine (KW l[k] g gm n f _ (hg.ext j) (hM.below j) (hq _ (eX hlt))).mono ?_;rintro e w2 ⟨rfl,r⟩;have m:=ah j r;clear r;cases hpk:(EJ f) l[k]
   ·have o:=ae hpk;clear hpk;go_wp2;go_roundw
    case rel=>exact⟨k+1,by omega,by go_num,m,nz hp.out hlt o.out⟩
    case measure=>simp[intOf];omega
   have d:=ae (oI (EJ f) l k hlt hp.out hpk);clear hpk;go_wp2;go_ret;exact⟨bq d.out.symm,m⟩
  have d:=ae (jW (EJ f) l fun i h=>hp.out i h (by omega));go_wp2;go_ret;exact⟨bq d.out.symm,j⟩
theorem Mk (l:List (Int × Page)) (a:Option Addr) (c:Nat) (w:World) (hrd:dV w a (l.flatMap DR)) (hl:l.length≤9223372036854775807) (g gm n:Nat) (f:Int→Bool) (hg:aJ w g #[.map (some gm)] 201) (hM:ny w gm n f) (hq:∀q∈l,-9223372036854775808≤q.1∧q.1≤9223372036854775807) :
  Calls Tryz.prog 145 #[.slice a l.length c,.func (.func 146) #[] #[.pointer (some ⟨g,0,none⟩)]] w fun e w'=>e = .returned (.bool (l.any (EJ f)))∧Below w.heap.size w w':=by
 go_enter func145,ntmps145
 go_wp2_with fail
 refine (Ld l a c _ hrd hl g gm n f hg hM hq).mono ?_;rintro e w2 ⟨rfl,b⟩;go_wp2;go_ret;exact⟨bS (qH _ _),b⟩
theorem SE (hk:k<m.dk.blocks.length) (h:(decide ((k:Int)∈iA m.st)||decide (m.dk.blocks.getD k zPg=zPg))=false):trimB m=false:=by
 unfold trimB;rw[Ct];refine .inl (List.all_eq_false.2 ⟨k,bX.2 hk,?_⟩);rw[h];decide
theorem Rq (h:∀j:Nat,j<m.dk.blocks.length→(decide ((j:Int)∈iA m.st)||decide (m.dk.blocks.getD j zPg=zPg))=true):trimB m = !(m.dk.queue.any (EJ (rU (iA m.st)))):=by
 unfold trimB;rw[dh.2 (fun j hj=>h j (bX.1 hj)),kR,List.any_eq_not_all_not,Bool.not_not];congr 1;funext q;simp[EJ,rU]
theorem iX {g:Nat} (h:aJ w b cs T) (hg:w.grownBy w' (some g)) (hne:g≠b):aJ w' b cs T:=h.grown hg (fun e=>hne (aT e))
theorem JI (H:MH) (b:Nat) (w:World) (hb:aJ w b (bP H) 44) (h:EM w H) (h0:aQ (bQ H.fi H.ct)=0) (hd:cK H.dk=0) :
  Calls Tryz.prog 95 #[.pointer (some ⟨b,0,none⟩)] w fun r w'=>r = .returned (.bool (trimB H.ma))∧Below w.heap.size w w':=by
 have kb:=@run_makeMap Tryz.prog;have kq:H.fi.length≤5:=by simpa[bQ] using (kw h0).1
 have kd:Hid (∀p∈H.fi,p.l.length≤12∧∀x∈p.l,-1≤x∧x<80):=ae (fun p hp=>by obtain⟨h1,h2,h3,h4⟩:=yV h0 p.fi (fF.2 ⟨p,hp,rfl⟩);have h5:=AO (n:=p.fi.n) h2;have h6:=(kw h0).2.2;refine⟨by have h7:(p.l.length:Int)=gG p.fi.n:=h3;omega,fun x hx=>⟨(h4 x hx).1,by have:=(h4 x hx).2;omega⟩⟩);obtain⟨kk,h9⟩:=Fh hd;have h8:Hid (∀q∈H.dk.queue,-9223372036854775808≤q.1∧q.1≤9223372036854775807):=ae (fun q hq=>by obtain⟨i,hi,rfl⟩:=jG.1 hq;have:=FM hd i hi;omega);have H0:=ae h0;have HD:=ae hd;clear h0 hd;have ht:=ae (NF H.fi H.ct);go_enter func95,ntmps95;go_upto_region 2 with (fail);refine je (fun W=>Code.wp _ _ _ _ W) fun w2 hF hC hw => ?_;have v:Below w.heap.size w w2:=ah ((Below.refl _ _).alloc (az _) _) hF;have hG:ny w2 w.heap.size 0 (rU (((H.fi.take 0).map PF.fi).flatMap Fi.b)):=(ny.made w).below hF;have hg : aJ w2 (w.heap.size+1) #[.map (some w.heap.size)] 201:=by have e:(w.alloc (Obj.map #[] 0)).heap.size=w.heap.size+1:=zx _;rw[e] at hC;exact hC
 obtain⟨gm,hH⟩:∃g,g=w.heap.size:=⟨_,rfl⟩;have hR:Hid (w.heap.size≤gm):=ae (by omega);rw[←hH] at hG hg ⊢;rw[←hH] at hR;have kp:w.heap.size≤gm:=by omega
 clear hF hC hw kb hH hR;have hB:=hb.ext v;have u:=hB.cell;unfold bP at u;have H5:(H.fi.length:Int)≤5:=by omega
 go_upto_region 3 with (fail);clear u hB
 go_loopw [17] (fun i wr => ∃(q n:Nat),q≤H.fi.length∧i = .int .i64 q∧n≤12*q∧Below w.heap.size w wr∧aJ wr (gm+1) #[.map (some gm)] 201∧ny wr gm n (rU (((H.fi.take q).map PF.fi).flatMap Fi.b))) (fun i _=>H.fi.length-(intOf i).toNat)
 case atStart=>exact⟨0,0,bK _,rfl,az _,v,hg,hG⟩
 case round=>
  clear v hg hG;obtain⟨q,n,hq,rfl,hn,c,hx,hM⟩:=hrel
  by_cases hlt:q<H.fi.length
  ·obtain⟨bf,of,ki,t⟩:=nU nP (by decide) (h.below c).st.rd q hlt;obtain⟨p,hp⟩:∃p,H.fi[q]?=some p:=⟨_,aN hlt⟩;rw[show H.fi[q]=p from (dC.1 hp).2] at t;have hr:=(h.below c).st.good p (dn hp);obtain⟨kj,hN⟩:=kd.out p (dn hp);have hY:=ae (take_at hp);have hZ:(q:Int)<(H.fi.length:Int):=by omega
   generalize hseen:((H.fi.take q).map PF.fi).flatMap Fi.b=seen at hM;have hv:=ae hseen;have hL:=ae hN;clear hseen hp hN;rw[ki]
   go_wp2_with (first | (refine aA _ _ rfl bf (of+q*2) rfl rfl _ t _ underlying98 rfl file_size ?_) | (refine aW rfl _ _ _ rfl (KX p) rfl rfl rfl file_size (BM p) ?_))
   intro w3 f fx3;have o:=ah c f;have ha:=hx.ext f;have hf:=hM.below f;have hy:=hr.below f;have kn:=ae c.size;have kl:=ae hx.lt;clear c hx hM f t hr;have hT:=fx3.cell;unfold KX at hT;have hV:ny w3 gm n (rU (seen++p.l.take 0)):=by simpa using hf
   have ko:=hy.le;have ka:=hy.mx;have s:=hy.rd;unfold maxLen at ka;clear hf hy;go_upto_region 6 with (fail);clear hT fx3
   go_loopw [24] (fun i wr => ∃(j m:Nat),j≤p.l.length∧i = .int .i64 j∧m≤n+j∧Below w.heap.size w wr∧aJ wr (gm+1) #[.map (some gm)] 201∧ny wr gm m (rU (seen++p.l.take j))∧dV wr p.a (p.l.map gQ)) (fun i _=>p.l.length-(intOf i).toNat)
   case atStart=>exact⟨0,n,bK _,rfl,az _,o,ha,hV,s⟩
   case round=>
    clear o ha hV s;obtain⟨j,m,hj,rfl,hm,c,hx,hM,s⟩:=hrel
    by_cases hjl:j<p.l.length
    ·obtain⟨x,hX⟩:∃x,p.l[j]?=some x:=⟨p.l[j],aN hjl⟩;obtain⟨b2,off2,hD,hc⟩:=lK s j hjl;rw[show p.l[j]=x from (dC.1 hX).2] at hc;have hI:=ae (take_at hX);have km:=hL.out x (dn hX);have hA:=ae s;have hO:=ae hD;have hQ : (j:Int)<(p.l.length:Int):=by omega
     have hS:=hx.cell;rw[hD];clear hX s hD;generalize hw:seen++p.l.take j=seen2 at hM;have hJ : Hid (seen++p.l.take (j+1)=seen2++[x]):=ae (by rw[hI.out,←nM,hw]);clear hw
     go_wp2_with (refine vV hM (by omega) rfl _ _ _ rfl rfl x rfl rfl (by omega) ?_)
     intro w6 hU z;rw[DJ,←hJ.out] at hU;have kg:=c.grown z c.size (fun k hk=>by cases hk;omega);have hW:=hx.grown z (fun e=>by have:=aT e;omega);have hK:=hM.rdv hA.out z;clear c hx hM z hS hc hA;go_wp2;go_roundw
     case rel=>exact⟨j+1,m+1,by omega,by go_num,by omega,kg,hW,hU,by rw[←hO.out];exact hK⟩
     case measure=>simp[intOf];omega
    have hQ : ¬(j:Int)<(p.l.length:Int):=by omega
    rw[mK (by omega)] at hM;have hz : ny wr gm m (rU (((H.fi.take (q+1)).map PF.fi).flatMap Fi.b)):=by rw[hY.out,jJ,gW,hv.out];simpa[PF.fi] using hM
    clear hM s;go_wp2;go_roundw
    case rel=>exact⟨q+1,m,by omega,by go_num,by omega,c,hx,hz⟩
    case measure=>simp[intOf];omega
  have hZ:¬(q:Int)<(H.fi.length:Int):=by omega
  rw[mK (by omega)] at hM;have hz : ny wr gm n (rU (iA H.ma.st)):=hM;clear hM;have ht:=hb.ext c;have u:=ht.cell;unfold bP at u;go_upto_region 12 with (fail);clear u ht
  go_loopw [38] (fun i wr => ∃(k:Nat),k≤H.dk.blocks.length∧i = .int .i64 k∧Below w.heap.size w wr∧aJ wr (gm+1) #[.map (some gm)] 201∧ny wr gm n (rU (iA H.ma.st))∧Hid (∀j:Nat,j<k→(decide ((j:Int)∈iA H.ma.st)||decide (H.dk.blocks.getD j zPg=zPg))=true)) (fun i _=>H.dk.blocks.length-(intOf i).toNat)
  case atStart=>exact⟨0,bK _,rfl,c,hx,hz,ae fun j hj=>absurd hj (gT _)⟩
  case round=>
   clear c hx hz;obtain⟨k,hk,rfl,c,hx,hM,d⟩:=hrel
   by_cases hkl:k<H.dk.blocks.length
   ·obtain⟨bd,od,ke,t⟩:=nU xE (by decide) (h.below c).dk.rb k hkl;have kc:(k:Int)<(H.dk.blocks.length:Int):=by omega
    have hs:Hid (H.dk.blocks.getD k zPg=H.dk.blocks[k]):=ae (by rw[bJ,aN hkl];rfl);generalize hP:H.dk.blocks[k]=P at t hs;clear hP;rw[ke]
    go_wp2_with (first | (refine aA _ _ rfl bd (od+k*8) rfl rfl _ t _ underlying100 rfl psize ?_) | (refine aW rfl _ _ _ rfl (gZ P) rfl rfl rfl psize (qB _) ?_))
    intro w3 f px3;have o:=ah c f;have ha:=hx.ext f;have hf:=hM.below f;clear c hx hM f t;have hS:=ha.cell;have hl:=hf.look k (by omega);have kf:=px3.cell;rw[GK] at kf;cases hu:rU (iA H.ma.st) (k:Int) with
    | true=>
     rw[hu] at hl;have y:Hid (∀j:Nat,j<k+1→(decide ((j:Int)∈iA H.ma.st)||decide (H.dk.blocks.getD j zPg=zPg))=true):=ae fun j hj=>by
      by_cases e:j=k
      ·subst e;rw[show decide ((j:Int)∈iA H.ma.st)=true from hu];rfl
      ·exact d.out j (by omega)
     clear hu d;go_wp2;go_roundw
     case rel=>exact⟨k+1,by omega,by go_num,o,ha,hf,y⟩
     case measure=>simp[intOf];omega
    | false=>
     rw[hu] at hl;have hE:∀W,(Op.equalIn 10000 100 (.agg #[.int .u8 P[0].toNat,.int .u8 P[1].toNat,.int .u8 P[2].toNat,.int .u8 P[3].toNat,.int .u8 P[4].toNat,.int .u8 P[5].toNat,.int .u8 P[6].toNat,.int .u8 P[7].toNat]) (.agg #[.int .u8 0,.int .u8 0,.int .u8 0,.int .u8 0,.int .u8 0,.int .u8 0,.int .u8 0,.int .u8 0])).run Tryz.prog W = .ok (P==zPg) W:=fun W=>Ym P zPg W
     by_cases hp0:P=zPg
     ·have y:Hid (∀j:Nat,j<k+1→(decide ((j:Int)∈iA H.ma.st)||decide (H.dk.blocks.getD j zPg=zPg))=true):=ae fun j hj=>by
       by_cases e:j=k
       ·subst e;rw[hs.out,decide_eq_true hp0,Bool.or_true]
       ·exact d.out j (by omega)
      have hh:(P==zPg)=true:=by rw[hp0];exact beq_self_eq_true _
      rw[hh] at hE;clear hu d hh hp0 hs;go_wp2;go_roundw
      case rel=>exact⟨k+1,by omega,by go_num,o,ha,hf,y⟩
      case measure=>simp[intOf];omega
     have hh:(P==zPg)=false:=by rw[beq_eq_false_iff_ne];exact hp0
     have hq:Hid (trimB H.ma=false):=ae (SE (k:=k) hkl (by show (decide ((k:Int)∈iA H.ma.st)||decide (H.dk.blocks.getD k zPg=zPg))=false;rw[hs.out,decide_eq_false hp0,show decide ((k:Int)∈iA H.ma.st)=false from hu];rfl));rw[hh] at hE;clear hu d hh hp0 hs;go_wp2;go_ret;rw[hq.out];exact⟨rfl,o⟩
   have kc:¬(k:Int)<(H.dk.blocks.length:Int):=by omega
   have hq:Hid (trimB H.ma = !(H.dk.queue.any (EJ (rU (iA H.ma.st))))):=ae (Rq fun j hj=>d.out j (by have:j<H.dk.blocks.length:=hj;omega));have ht:=hb.ext c;have u:=ht.cell;unfold bP at u;have hd:=(h.below c).dk;clear d
   go_wp2_with fail
   refine (Mk H.dk.queue H.dq H.cdq _ hd.rq (by omega) (gm+1) gm n (rU (iA H.ma.st)) hx hM h8.out).mono ?_;rintro r w4 ⟨rfl,kh⟩;go_wp2;go_ret;rw[hq.out];exact⟨rfl,ah c kh⟩
def Ho (m:Ma):List Int:=[bI m.m,dH m.sl,cK m.sw,cK m.dk,aQ m.st]
theorem OB (hk:k<5) (h:∀j,j<k→(Ho m).getD j 0=0) (hne:(Ho m).getD k 0≠0):il m=(Ho m).getD k 0:=by
 unfold il;have e0:0<k→bI m.m=0:=fun h'=>h 0 h';have e1:1<k→dH m.sl=0:=fun h'=>h 1 h';have e2:2<k→cK m.sw=0:=fun h'=>h 2 h';have e3:3<k→cK m.dk=0:=fun h'=>h 3 h'
 match k,hk with
 | 0,_=>rw[if_pos (show bI m.m≠0 from hne)];rfl
 | 1,_=>rw[if_neg (by rw[e0 (by omega)];simp),if_pos (show dH m.sl≠0 from hne)];rfl
 | 2,_=>rw[if_neg (by rw[e0 (by omega)];simp),if_neg (by rw[e1 (by omega)];simp),if_pos (show cK m.sw≠0 from hne)];rfl
 | 3,_=>rw[if_neg (by rw[e0 (by omega)];simp),if_neg (by rw[e1 (by omega)];simp),if_neg (by rw[e2 (by omega)];simp),if_pos (show cK m.dk≠0 from hne)];rfl
 | 4,_=>rw[if_neg (by rw[e0 (by omega)];simp),if_neg (by rw[e1 (by omega)];simp),if_neg (by rw[e2 (by omega)];simp),if_neg (by rw[e3 (by omega)];simp),if_pos (show aQ m.st≠0 from hne)];rfl
 | n+5,h'=>omega
def Xm (B:Nat) (H:MH):nR:=⟨fun v w => ∃g,v = .slice (some ⟨g,0,none⟩) 5 5∧aJ w g #[.int .i64 (bI H.m),.int .i64 (dH H.sl),.int .i64 (cK H.sw),.int .i64 (cK H.dk),.int .i64 (aQ (bQ H.fi H.ct))] 46,fun _ _ _ hb ⟨g,h1,h2⟩=>⟨g,h1,h2.ext hb⟩⟩
theorem Qa (H:MH) (b:Nat) (w:World) (hbk:aJ w b (bP H) 44) (h:EM w H) :
  Calls Tryz.prog 49 #[.pointer (some ⟨b,0,none⟩)] w fun r w'=>r = .returned (.int .i64 (il H.ma))∧Below w.heap.size w w':=by
 go_enter func49,ntmps49;go_upto_region 1 with (fail);refine aP 28 [_,_,_,_,.v (.int .i64 (bI H.m)),_,_,_,_,.v (.int .i64 (dH H.sl)),_,_,_,_,.v (.int .i64 (cK H.sw)),_,_,_,_,.v (.int .i64 (cK H.dk)),_,_,_,_,.v (.int .i64 (aQ (bQ H.fi H.ct))),.r 25 ((Xm w.heap.size H)),.v (.int .i64 5),_] (Gk rfl (Gk rfl (Gf b 0 rfl rfl (Gr (.agg #[.slice H.af H.m.fs.length H.cf,.int .i64 H.m.hand]) (fun ρ y W hb g=>(bM rfl (aV rfl g) (bW (hbk.ext hb) 0 2) underlying31 rfl (by kernel_rfl))) rfl rfl (aj ?_ (Gk rfl (Gk rfl (Gf b 2 rfl rfl (Gl hbk rfl rfl rfl rfl rfl (aj ?_ (Gk rfl (Gk rfl (Gf b 3 rfl rfl (Gr (.agg #[.slice H.wb H.sw.blocks.length H.cwb,.slice H.wq H.sw.queue.length H.cwq]) (fun ρ y W hb g=>(bM rfl (aV rfl g) (bW (hbk.ext hb) 3 2) underlying37 rfl (by kernel_rfl))) rfl rfl (aj ?_ (Gk rfl (Gk rfl (Gf b 5 rfl rfl (Gr (.agg #[.slice H.db H.dk.blocks.length H.cdb,.slice H.dq H.dk.queue.length H.cdq]) (fun ρ y W hb g=>(bM rfl (aV rfl g) (bW (hbk.ext hb) 5 2) underlying37 rfl (by kernel_rfl))) rfl rfl (aj ?_ (Gk rfl (Gk rfl (Gf b 7 rfl rfl (Gr (.agg #[.slice H.ai H.fi.length H.ci,.int .i64 H.ct]) (fun ρ y W hb g=>(bM rfl (aV rfl g) (bW (hbk.ext hb) 7 2) underlying40 rfl (by kernel_rfl))) rfl rfl (aj ?_ (aj ?_ (aj ?_ (Gr (.int .i64 0) (fun ρ y W hb g=>(run_move (.inl rfl) (aV rfl g))) rfl rfl (aG))))))))))))))))))))))))))))) (fun _=>rfl) rfl ?_
 ·intro ρ y W hw hn hb hd;have kw:=hw 12 3 rfl;have h3:y 3=_:=hd 3 rfl;have EF:∀f,ρ (.func f) = .func (.func f) #[] #[]:=fun f=>hn (.func f) trivial;refine aL _ _ (ag rfl) (aS rfl (EF _) func92 (by kernel_rfl) (by kernel_rfl) (by simp only[bT,bH,bL,kw,h3,EF];rfl)) ?_;refine (vH H.m _ _ W (h.below hb).fr).mono ?_;rintro r w1 ⟨rfl,p⟩;exact⟨_,rfl,p,rfl⟩
 ·intro ρ y W hw hn hb hd;have ku:=hw 17 8 rfl;have h8:y 8=_:=hd 8 rfl;have EF:∀f,ρ (.func f) = .func (.func f) #[] #[]:=fun f=>hn (.func f) trivial;refine aL _ _ (ag rfl) (aS rfl (EF _) func93 (by kernel_rfl) (by kernel_rfl) (by simp only[bT,bH,bL,ku,h8,EF];rfl)) ?_;refine (wy H.sl _ _ W (h.below hb).sl.rd (by have:=h.sl.le;have:=h.sl.mx;unfold maxLen at this;omega)).mono ?_;rintro r w1 ⟨rfl,rfl⟩;exact⟨_,rfl,Below.refl _ _,rfl⟩
 ·intro ρ y W hw hn hb hd;have ks:=hw 22 13 rfl;have kk:y 13=_:=hd 13 rfl;have EF:∀f,ρ (.func f) = .func (.func f) #[] #[]:=fun f=>hn (.func f) trivial;refine aL _ _ (ag rfl) (aS rfl (EF _) func94 (by kernel_rfl) (by kernel_rfl) (by simp only[bT,bH,bL,ks,kk,EF];rfl)) ?_;refine (uI H.sw _ _ _ _ W (h.below hb).sw).mono ?_;rintro r w1 ⟨rfl,p⟩;exact⟨_,rfl,p,rfl⟩
 ·intro ρ y W hw hn hb hd;have kq:=hw 27 18 rfl;have ki:y 18=_:=hd 18 rfl;have EF:∀f,ρ (.func f) = .func (.func f) #[] #[]:=fun f=>hn (.func f) trivial;refine aL _ _ (ag rfl) (aS rfl (EF _) func94 (by kernel_rfl) (by kernel_rfl) (by simp only[bT,bH,bL,kq,ki,EF];rfl)) ?_;refine (uI H.dk _ _ _ _ W (h.below hb).dk).mono ?_;rintro r w1 ⟨rfl,p⟩;exact⟨_,rfl,p,rfl⟩
 ·intro ρ y W hw hn hb hd;have ko:=hw 32 23 rfl;have kg:y 23=_:=hd 23 rfl;have EF:∀f,ρ (.func f) = .func (.func f) #[] #[]:=fun f=>hn (.func f) trivial;refine aL _ _ (ag rfl) (aS rfl (EF _) func71 (by kernel_rfl) (by kernel_rfl) (by simp only[bT,bH,bL,ko,kg,EF];rfl)) ?_;refine (yz H.fi H.ct _ _ W (h.below hb).st h.c64).mono ?_;rintro r w1 ⟨rfl,p⟩;exact⟨_,rfl,p,rfl⟩
 ·intro ρ y W hw hn hb hd;have kv:=hw 13 4 rfl;have h4:y 4=_:=hd 4 rfl;have kt:=hw 18 9 rfl;have h9:y 9=_:=hd 9 rfl;have kr:=hw 23 14 rfl;have kj:y 14=_:=hd 14 rfl;have kp:=hw 28 19 rfl;have kh:y 19=_:=hd 19 rfl;have kn:=hw 33 24 rfl;have kf:y 24=_:=hd 24 rfl;refine gH (.slice (some ⟨W.heap.size,0,none⟩) 5 5) (ag rfl) (by simp[execOp,go_sem,kv.trans h4,kt.trans h9,kr.trans kj,kp.trans kh,kn.trans kf]) ((Below.refl _ _).alloc (az _) (.cells #[.int .i64 (bI H.m),.int .i64 (dH H.sl),.int .i64 (cK H.sw),.int .i64 (cK H.dk),.int .i64 (aQ (bQ H.fi H.ct))] 46)) ?_;exact⟨_,rfl,aJ.new _ _ _⟩
 ·intro ρ y W hw hn hb hd;have km:=hw 34 25 rfl;have ke:=hd 25 rfl;obtain⟨ge,hu,_⟩:=ke;refine ak (.int .i64 5) (ag rfl) (by simp[execOp,go_sem,km,hu]) rfl
 intro y W1 hG hI;have hV:((Xm w.heap.size H)).r (y 25) W1:=hI 25 (by decide);clear hI;obtain⟨ge,hu,hW⟩:=hV;have hh:Below w.heap.size w W1:=hG;rw[hu];clear hu hG;go_upto_region 2 with (fail)
 go_loopw [36] (fun i wr => ∃(k:Nat),k≤5∧i = .int .i64 k∧Below w.heap.size w wr∧aJ wr ge #[.int .i64 (bI H.m),.int .i64 (dH H.sl),.int .i64 (cK H.sw),.int .i64 (cK H.dk),.int .i64 (aQ (bQ H.fi H.ct))] 46∧Hid (∀j,j<k→(Ho H.ma).getD j 0=0)) (fun i _=>5-(intOf i).toNat)
 case atStart=>exact⟨0,bK _,rfl,hh,hW,ae fun j hj=>absurd hj (gT _)⟩
 case round=>
  clear hh hW;obtain⟨k,hk,rfl,d,hx,hz⟩:=hrel
  by_cases hkl:k<5
  ·have hM:(k:Int)<5:=by omega
   have kb:wr.cell? ⟨ge,k,none⟩=some (.int .i64 ((Ho H.ma).getD k 0)):=by
    rw[hx.cell]
    match k,hkl with
    | 0,_=>rfl
    | 1,_=>rfl
    | 2,_=>rfl
    | 3,_=>rfl
    | 4,_=>rfl
    | n+5,h'=>omega
   by_cases h0:(Ho H.ma).getD k 0=0
   ·have hm:Hid (∀j,j<k+1→(Ho H.ma).getD j 0=0):=ae fun j hj=>by
     by_cases e:j=k
     ·rw[e];exact h0
     ·exact hz.out j (by omega)
    rw[h0] at kb;clear h0 hz;go_wp2;go_roundw
    case rel=>exact⟨k+1,by omega,by go_num,d,hx,hm⟩
    case measure=>simp[intOf];omega
   have hq:Hid (il H.ma=(Ho H.ma).getD k 0):=ae (OB hkl hz.out h0);generalize (Ho H.ma).getD k 0=E at *
   clear hz;go_wp2;go_ret;rw[hq.out];exact⟨rfl,d⟩
  have hM:¬(k:Int)<5:=by omega
  have hU:=hz.out 0 (by omega);have hT:=hz.out 1 (by omega);have hm:=hz.out 2 (by omega);have hS:=hz.out 3 (by omega);have hR:=hz.out 4 (by omega);have e0:=ae (show bI H.m=0 from hU);have e1:=ae (show dH H.sl=0 from hT);have e2:=ae (show cK H.sw=0 from hm);have e3:=ae (show cK H.dk=0 from hS);have e4:=ae (show aQ (bQ H.fi H.ct)=0 from hR);clear hU hT hm hS hR hz hx;have a:=hbk.ext d;have hr:=h.below d;have hP:Hid (il H.ma=if H.sw.blocks.length≠H.sl.length∨(H.dk.blocks.length:Int)≠H.ct∨trimB H.ma=false then 7 else if 4<H.sp.length then 4 else firstE (H.ma.sp.map jK)):=ae (by unfold il;rw[if_neg (by rw[show bI H.ma.m=0 from e0.out];simp),if_neg (by rw[show dH H.ma.sl=0 from e1.out];simp),if_neg (by rw[show cK H.ma.sw=0 from e2.out];simp),if_neg (by rw[show cK H.ma.dk=0 from e3.out];simp),if_neg (by rw[show aQ H.ma.st=0 from e4.out];simp),pI];rfl);go_upto_region 7 with (fail);have hf:=a.cell;unfold bP at hf
  by_cases c1:H.sw.blocks.length=H.sl.length
  ·by_cases c2:(H.dk.blocks.length:Int)=H.ct
   ·have c1i:(H.sw.blocks.length:Int)=(H.sl.length:Int):=by omega
    have hL:Hid (il H.ma=if trimB H.ma=false then 7 else if 4<H.sp.length then 4 else firstE (H.ma.sp.map jK)):=ae (by
     rw[hP.out]
     by_cases ct:trimB H.ma=false
     ·rw[if_pos (.inr (.inr ct)),if_pos ct]
     ·rw[if_neg (by rintro (h | h | h);exact h c1;exact h c2;exact ct h),if_neg ct])
    refine aP 31 [_,_,_,_,_,_,_,_,_,_,_,_,_,_,_,_,_,_,_,_,_,_,_,_,_,_,_,_,.v (.bool (trimB H.ma)),_,.v (.bool (!trimB H.ma))] (Gk rfl (Gk rfl (Gf b 3 rfl rfl (Gf b 3 rfl rfl (Gl a rfl rfl rfl rfl rfl (Gn rfl rfl rfl rfl (Gk rfl (Gk rfl (Gf b 2 rfl rfl (Gl a rfl rfl rfl rfl rfl (Gn rfl rfl rfl rfl (Gb (.bool false) (by simp[go_sem,c1]) rfl rfl rfl rfl rfl (Gk rfl (Gk rfl (Gk rfl (Gf b 5 rfl rfl (Gf b 5 rfl rfl (Gl a rfl rfl rfl rfl rfl (Gn rfl rfl rfl rfl (Gk rfl (Gk rfl (Gf b 7 rfl rfl (Gf b 8 rfl rfl (Gl a rfl rfl rfl rfl rfl (Gb (.bool false) (by simp[go_sem,c2]) rfl rfl rfl rfl rfl (Gk rfl (Gk rfl (Gk rfl (aj ?_ (Gr (.bool (!trimB H.ma)) (fun ρ y W hb g=>BS rfl (aV rfl g)) rfl rfl (Gk rfl (aG)))))))))))))))))))))))))))))))) (fun _=>rfl) rfl ?_
    ·intro ρ y W hw hn hb hd;have kl:=hw 71 27 rfl;have kd:y 27=_:=hd 27 rfl;have EF:∀f,ρ (.func f) = .func (.func f) #[] #[]:=fun f=>hn (.func f) trivial;refine aL _ _ (gJ 26 70 false false rfl rfl ((hw 70 26 rfl).trans (hd 26 rfl))) (aS rfl (EF _) func95 (by kernel_rfl) (by kernel_rfl) (by simp only[bT,bH,bL,kl,kd,EF];rfl)) ?_;refine (JI H b W (a.ext hb) (hr.below hb) e4.out e3.out).mono ?_;rintro r w1 ⟨rfl,p⟩;exact⟨_,rfl,p,rfl⟩
    intro y W2 l _;have c:=ah d l;clear l;cases ht:trimB H.ma with
    | false=>
     have ha:Hid (il H.ma=7):=ae (by rw[hL.out,if_pos ht]);clear c1 c2 c1i;go_wp2;go_ret;rw[ha.out];exact⟨rfl,c⟩
    | true=>
     have hK:Hid (il H.ma=if 4<H.sp.length then 4 else firstE (H.ma.sp.map jK)):=ae (by rw[hL.out,if_neg (by rw[ht];decide)]);clear c1 c2 c1i hf ht;have h6:=h.below c;have hf:=(hbk.ext c).cell;unfold bP at hf;clear hr a hP hL d
     by_cases c4:4<H.sp.length
     ·have hs:Hid (il H.ma=4):=ae (by rw[hK.out,if_pos c4]);have c4i:(4:Int)<(H.sp.length:Int):=by omega
      clear c4;go_wp2;go_ret;rw[hs.out];exact⟨rfl,c⟩
     have hs:Hid (il H.ma=firstE (H.ma.sp.map jK)):=ae (by rw[hK.out,if_neg c4]);have c4i:¬(4:Int)<(H.sp.length:Int):=by omega
     have hC:Hid ((H.ma.sp.map jK).length=H.sp.length):=ae (by rw[gK,pI]);clear c4 hK;go_upto_region 12 with (fail);clear hf h6
     go_loopw [86] (fun i wr => ∃(k:Nat),k≤H.sp.length∧i = .int .i64 k∧Below w.heap.size w wr∧Hid (∀j (hj:j<(H.ma.sp.map jK).length),j<k→(H.ma.sp.map jK)[j]=0)) (fun i _=>H.sp.length-(intOf i).toNat)
     case atStart=>exact⟨0,bK _,rfl,c,ae fun j _ hj=>absurd hj (gT _)⟩
     case round=>
      clear c;obtain⟨k,hk,rfl,d,hz⟩:=hrel
      by_cases hkl:k<H.sp.length
      ·obtain⟨bs,os,P,kc,hP,hX⟩:=vN (h.below d).sp.rd k hkl;have t:=zm (h.below d) hP;have hM:(k:Int)<(H.sp.length:Int):=by omega
       have hZ:k<(H.ma.sp.map jK).length:=by rw[hC.out];exact hkl
       have hE:Hid ((H.ma.sp.map jK)[k]=jK P.sp):=ae (by
        rw[qi];congr 1;have:H.ma.sp[k]?=some P.sp:=by show (H.sp.map PS.sp)[k]?=_;rw[jd,hP];rfl
        exact (dC.1 this).2)
       have hc:Hid (jK P.sp≠0→il H.ma=jK P.sp):=ae fun h7=>by rw[hs.out,xQ k hZ hz.out (by rw[hE.out];exact h7),hE.out]
       have hY:Hid (jK P.sp=0→∀j (hj:j<(H.ma.sp.map jK).length),j<k+1→(H.ma.sp.map jK)[j]=0):=ae fun h0 j hj kz=>by
        by_cases e:j=k
        ·subst e;rw[hE.out];exact h0
        ·exact hz.out j hj (by omega)
       have o:Hid (jK P.sp=if (dI P.ar).1≠0 then (dI P.ar).1 else if dR P.tb≠0 then dR P.tb else if P.lv=false∧0<P.ar.length+(aM P.tb).length then 7 else 0):=ae rfl;rw[kc];clear hz hP hE hZ;have hB:(Ag P).all (·.oneCell')=true:=by rw[←iF,dh];exact t.one
       go_wp2_with (first | (refine aA _ _ rfl bs (os+k*10) rfl rfl _ hX _ underlying114 rfl space_size ?_) | (refine aW rfl _ _ _ rfl (Ag P) rfl rfl rfl space_size hB ?_))
       intro w3 hQ fx3;have hF:=ah d hQ;have hN:=t.below hQ;have ka:=fx3.lt;generalize wr.heap.size=gs at fx3 ka ⊢;clear d hQ hX t hB;have h1:=fx3.cell;unfold Ag at h1;have hA:=hN.ars
       go_wp2_with fail
       refine (Ea P.ar P.aa P.ac _ hA.rd (by have:=hA.le;have:=hA.mx;unfold maxLen at this;omega)).mono ?_;rintro r w3' ⟨rfl,z⟩;have fx3':=fx3.ext z;have hg:=ah hF z;have hD:=hN.below z;clear h1 fx3 hF hN z hA
       go_wp2_with (refine aW rfl _ _ _ rfl (QR (dI P.ar)) rfl rfl rfl fau_size (by simp[QR,Value.oneCell']) ?_)
       intro w4 hy ux;have fx:=fx3'.ext hy;have q:=ah hg hy;have u:=hD.below hy;clear fx3' hg hD hy;have hO:=ux.cell;unfold QR at hO
       by_cases c5:(dI P.ar).1=0
       ·rw[if_neg (by rw[c5];simp)] at o;rw[c5] at hO;have kA:=(qO c5).1;have ky:(aM P.tb).length≤64:=qW P.tb 64;have hp:IntKind.i64.wrap ((P.ar.length:Int)+((aM P.tb).length:Int))=(P.ar.length:Int)+((aM P.tb).length:Int):=dS _ (by omega);go_upto_region 17 with (fail);clear hO ux c5
        go_wp2_with (refine aA _ _ rfl gs 2 rfl rfl _ (bW fx 2 8) _ underlying112 tab_agg tab_size ?_)
        refine (Du P.tb (rT P.ts) _ u.tb).mono ?_;rintro r w6 ⟨rfl,hv⟩;replace fx:=fx.ext hv;replace q:=ah q hv;replace u:=u.below hv;clear hv
        by_cases c6:dR P.tb=0
        ·rw[if_neg (by rw[c6];simp)] at o;rw[c6];go_upto_region 20 with (fail);cases hlv:P.lv with
         | true=>
          have hJ:Hid (jK P.sp=0):=ae (by rw[o.out,if_neg (by rw[hlv];simp)]);refine aP 14 [_,_,_,_,_,_,_,_,_,_,_,_,_,.v (.bool false)] (Gf gs 0 rfl rfl (Gl fx (V:=.bool true) (by simp[Ag,hlv]) rfl rfl rfl rfl (Gk rfl (Gk rfl (Gk rfl (Gk rfl (Gk rfl (Gk rfl (Gk rfl (Gk rfl (Gk rfl (Gk rfl (Gk rfl (Gk rfl (aG))))))))))))))) (fun _=>rfl) rfl ?_;intro y W5 s _;have x:=ah q s;clear s;have hl:=ae (hY.out hJ.out);clear hp fx u;go_wp2;go_roundw
          case rel=>exact⟨k+1,by omega,by go_num,x,hl⟩
          case measure=>simp[intOf];omega
         | false=>
          refine aP 14 [_,_,_,_,_,_,_,_,_,.r 9 ((gM w6.heap.size 3 1 (aM P.tb).length ((aM P.tb).map gQ))),.v (.int .i64 (aM P.tb).length),_,_,.v (.bool (decide (0<(P.ar.length:Int)+((aM P.tb).length:Int))))] (Gf gs 0 rfl rfl (Gl fx (V:=.bool false) (by simp[Ag,hlv]) rfl rfl rfl rfl (Gk rfl (Gk rfl (Gf gs 1 rfl rfl (Gl fx rfl rfl rfl rfl rfl (Gn rfl rfl rfl rfl (Gf gs 2 rfl rfl (Gr (.agg (rT P.ts)) (fun ρ y W hb g=>(bM rfl (aV rfl g) (bW (fx.ext hb) 2 8) underlying112 tab_agg tab_size)) rfl rfl (aj ?_ (aj ?_ (Gb (.int .i64 ((P.ar.length:Int)+((aM P.tb).length:Int))) (by simp[go_sem,hp]) rfl rfl rfl rfl rfl (Gb (.bool (decide (0<(P.ar.length:Int)+((aM P.tb).length:Int)))) (by simp[go_sem]) rfl rfl rfl rfl rfl (Gk rfl (aG))))))))))))))) (fun _=>rfl) rfl ?_
          ·intro ρ y W hw hn hb hd;have h5:=hw 112 8 rfl;have h8:y 8=_:=hd 8 rfl;have EF:∀f,ρ (.func f) = .func (.func f) #[] #[]:=fun f=>hn (.func f) trivial;refine aL _ _ (gJ 3 107 true true rfl rfl ((hw 107 3 rfl).trans (hd 3 rfl))) (aS rfl (EF _) func51 (by kernel_rfl) (by kernel_rfl) (by simp only[bT,bH,bL,h5,h8,EF];rfl)) ?_;refine (ru P.tb (rT P.ts) W (u.below hb).tb).mono ?_;rintro r w1 ⟨v,rfl,ho,p⟩;exact⟨_,rfl,p,ho.mono hb.size⟩
          ·intro ρ y W hw hn hb hd;have h2:=hw 113 9 rfl;have h9:=hd 9 rfl;obtain⟨a9,c9,e9,_⟩:=Own.rd h9;refine ak (.int .i64 (aM P.tb).length) (gJ 3 107 true true rfl rfl ((hw 107 3 rfl).trans (hd 3 rfl))) (JL rfl (h2.trans e9) rfl) rfl
          intro y W5 s hH;have kx:((gM w6.heap.size 3 1 (aM P.tb).length ((aM P.tb).map gQ))).r (y 9) W5:=hH 9 (by decide);clear hH;have x:=ah q s;clear s
          by_cases c7:0<P.ar.length+(aM P.tb).length
          ·have hq:Hid (il H.ma=7):=ae (by rw[hc.out (by rw[o.out,if_pos ⟨hlv,c7⟩];decide),o.out,if_pos ⟨hlv,c7⟩]);have hd:decide (0<(P.ar.length:Int)+((aM P.tb).length:Int))=true:=decide_eq_true (by omega);rw[hd];clear hp fx u hd c7;go_wp2;go_ret;rw[hq.out];exact⟨rfl,x⟩
          have hJ:Hid (jK P.sp=0):=ae (by rw[o.out,if_neg (fun h'=>c7 h'.2)]);have hl:=ae (hY.out hJ.out);have hd:decide (0<(P.ar.length:Int)+((aM P.tb).length:Int))=false:=decide_eq_false (by omega);rw[hd];clear hp fx u hd c7;go_wp2;go_roundw
          case rel=>exact⟨k+1,by omega,by go_num,x,hl⟩
          case measure=>simp[intOf];omega
        rw[if_pos c6] at o;have hq:Hid (il H.ma=dR P.tb):=ae (by rw[hc.out (by rw[o.out];exact c6),o.out]);generalize dR P.tb=E at *
        go_wp2;go_ret;rw[hq.out];exact⟨rfl,q⟩
       rw[if_pos c5] at o;have hq:Hid (il H.ma=(dI P.ar).1):=ae (by rw[hc.out (by rw[o.out];exact c5),o.out]);generalize (dI P.ar).1=E at *
       go_wp2;go_ret;rw[hq.out];exact⟨rfl,q⟩
      have hM:¬(k:Int)<(H.sp.length:Int):=by omega
      have hq:Hid (il H.ma=0):=ae (by rw[hs.out,su fun i hi=>hz.out i hi (by rw[hC.out] at hi;omega)]);clear hz;go_wp2;go_ret;rw[hq.out];exact⟨rfl,d⟩
   have ha:Hid (il H.ma=7):=ae (by rw[hP.out,if_pos (.inr (.inl c2))]);refine aP 31 [_,_,_,_,_,_,_,_,_,_,_,_,_,_,_,_,_,_,_,_,_,_,_,_,_,_,_,_,_,_,.v (.bool true)] (Gk rfl (Gk rfl (Gf b 3 rfl rfl (Gf b 3 rfl rfl (Gl a rfl rfl rfl rfl rfl (Gn rfl rfl rfl rfl (Gk rfl (Gk rfl (Gf b 2 rfl rfl (Gl a rfl rfl rfl rfl rfl (Gn rfl rfl rfl rfl (Gb (.bool false) (by simp[go_sem,c1]) rfl rfl rfl rfl rfl (Gk rfl (Gk rfl (Gk rfl (Gf b 5 rfl rfl (Gf b 5 rfl rfl (Gl a rfl rfl rfl rfl rfl (Gn rfl rfl rfl rfl (Gk rfl (Gk rfl (Gf b 7 rfl rfl (Gf b 8 rfl rfl (Gl a rfl rfl rfl rfl rfl (Gb (.bool true) (by simp[go_sem,c2]) rfl rfl rfl rfl rfl (Gk rfl (Gk rfl (Gk rfl (Gk rfl (Gk rfl (Gk rfl (aG)))))))))))))))))))))))))))))))) (fun _=>rfl) rfl ?_;intro y W2 l _;have c:=ah d l;clear l;clear c1 c2;go_wp2;go_ret;rw[ha.out];exact⟨rfl,c⟩
  have ha:Hid (il H.ma=7):=ae (by rw[hP.out,if_pos (.inl c1)]);have c1i:¬((H.sw.blocks.length:Int)=(H.sl.length:Int)):=by omega
  have c2:=c1;refine aP 31 [_,_,_,_,_,_,_,_,_,_,_,_,_,_,_,_,_,_,_,_,_,_,_,_,_,_,_,_,_,_,.v (.bool true)] (Gk rfl (Gk rfl (Gf b 3 rfl rfl (Gf b 3 rfl rfl (Gl a rfl rfl rfl rfl rfl (Gn rfl rfl rfl rfl (Gk rfl (Gk rfl (Gf b 2 rfl rfl (Gl a rfl rfl rfl rfl rfl (Gn rfl rfl rfl rfl (Gb (.bool true) (by simp[go_sem,c1i]) rfl rfl rfl rfl rfl (Gk rfl (Gk rfl (Gk rfl (Gk rfl (Gk rfl (Gk rfl (Gk rfl (Gk rfl (Gk rfl (Gk rfl (Gk rfl (Gk rfl (Gk rfl (Gk rfl (Gk rfl (Gk rfl (Gk rfl (Gk rfl (Gk rfl (aG)))))))))))))))))))))))))))))))) (fun _=>rfl) rfl ?_;intro y W2 l _;have c:=ah d l;clear l;clear c1 c1i c2;go_wp2;go_ret;rw[ha.out];exact⟨rfl,c⟩
theorem uA {p:Option Cc} {c:Cc} (h:c.f<0∨(m.st.fs.length:Int)≤c.f∨c.i<0∨((aI m.st c.f).b.length:Int)≤c.i∨c.k<0∨(m.m.fs.length:Int)≤c.k):tN m p c=3:=by
 unfold tN;rw[if_pos h]
theorem Md (H:MH) (b:Nat) (w:World) (hbk:aJ w b (bP H) 44) (h:EM w H) :
  Calls Tryz.prog 50 #[.pointer (some ⟨b,0,none⟩)] w fun r w'=>r = .returned (.int .i64 (ig H.ma))∧Below w.heap.size w w':=by
 have ku:=h.ca.le;have kp:=h.ca.mx;unfold maxLen at kp;go_enter func50,ntmps50;have kf:=hbk.cell;unfold bP at kf;obtain⟨L,hL⟩:∃L,L=(List.range H.ca.length).map fun k=>tN H.ma (xZ H.ca k) (H.ca.getD k zCc):=⟨_,rfl⟩;have kl:Hid (L.length=H.ca.length):=ae (by rw[hL];simp);have km:Hid (ig H.ma=firstE L):=ae (by rw[hL];rfl);have ks:Hid (∀k (hk:k<L.length),L[k]=tN H.ma (xZ H.ca k) (H.ca.getD k zCc)):=ae fun k hk=>by simp[hL]
 clear hL;go_upto_region 2 with (fail);clear kf
 go_loopw [11] (fun i wr => ∃(k:Nat),k≤H.ca.length∧i = .int .i64 k∧Below w.heap.size w wr∧Hid (∀j (hj:j<L.length),j<k→L[j]=0)) (fun i _=>H.ca.length-(intOf i).toNat)
 case atStart=>exact⟨0,bK _,rfl,Below.refl _ _,ae fun j _ hj=>absurd hj (gT _)⟩
 case round=>
  obtain⟨k,hk,rfl,hN,hz⟩:=hrel
  by_cases hkl:k<H.ca.length
  ·obtain⟨bc,oc,hv,h4⟩:=nU jQ (by decide) (h.below hN).ca.rd k hkl;have kq:(k:Int)<(H.ca.length:Int):=by omega
   have hX:k<L.length:=by rw[kl.out];exact hkl
   have hE:Hid (L[k]=tN H.ma (xZ H.ca k) H.ca[k]):=ae (by rw[ks.out k hX,bJ,aN hkl];rfl);have ha:Hid (L[k]≠0→ig H.ma=L[k]):=ae fun ko=>by rw[km.out,xQ k hX hz.out ko]
   have hW:Hid (L[k]=0→∀j (hj:j<L.length),j<k+1→L[j]=0):=ae fun h0 j hj kv=>by
    by_cases e:j=k
    ·subst e;exact h0
    ·exact hz.out j hj (by omega)
   generalize hLk:L[k]=Lk at *
   have h6:Hid (xZ H.ca k=if k=0 then none else H.ca[k-1]?):=ae rfl;generalize hc:H.ca[k]=c at *
   rw[hv];clear hz hX hLk hc
   go_wp2_with (first | (refine aA _ _ rfl bc (oc+k*3) rfl rfl _ h4 _ underlying124 rfl cached_size ?_) | (refine aW rfl _ _ _ rfl (AJ c) rfl rfl rfl cached_size (HZ c) ?_))
   intro w3 kj cx;have ht:=ah hN kj;have z:=hbk.ext ht;have hV:=h.below ht;generalize wr.heap.size=gc at cx ⊢;clear kj h4 hN;go_upto_region 4 with (fail);obtain⟨bf,of,F,P,hl,hg,hu,hr⟩:∃(bf of F:Nat) (P:PF),(0≤c.f→c.f<H.fi.length→H.ai=some ⟨bf,of,none⟩)∧(0≤c.f→c.f<H.fi.length→F<H.fi.length)∧(0≤c.f→c.f<H.fi.length→c.f=(F:Int)∧aI H.ma.st c.f=P.fi)∧(0≤c.f→c.f<H.fi.length→∀W,Below w3.heap.size w3 W→W.cell? ⟨bf,of+F*2+1,none⟩=some (.slice P.a P.l.length P.c)):=by
    by_cases hc0:0≤c.f∧c.f<H.fi.length
    ·have hg:c.f.toNat<H.fi.length:=by omega
     obtain⟨bf,of,P,hl,hP,kw,hr⟩:=yR hV.st.rd c.f.toNat hg;refine⟨bf,of,c.f.toNat,P,fun _ _=>hl,fun _ _=>hg,fun _ _=>⟨by omega,?_⟩,fun _ _ W hb => ?_⟩
     ·have:(H.fi.map PF.fi)[c.f.toNat]?=some P.fi:=by rw[jd,hP];rfl
      have h2:=kH (s:=H.ma.st) (F:=c.f.toNat) this;rw[←h2];congr 1;omega
     obtain⟨bf',of',P',hS,kk,kt,kd⟩:=yR (hV.below hb).st.rd c.f.toNat hg;rw[hP] at kk;cases kk;rw[hl] at hS;cases hS;exact kd
    ·exact⟨0,0,0,⟨0,none,[],0⟩,fun h1 h2=>absurd ⟨h1,h2⟩ hc0,fun h1 h2=>absurd ⟨h1,h2⟩ hc0,fun h1 h2=>absurd ⟨h1,h2⟩ hc0,fun h1 h2=>absurd ⟨h1,h2⟩ hc0⟩
   by_cases c1:c.f<0
   ·have t:Hid (c.f<0∨(H.ma.st.fs.length:Int)≤c.f∨c.i<0∨((aI H.ma.st c.f).b.length:Int)≤c.i∨c.k<0∨(H.ma.m.fs.length:Int)≤c.k):=ae (.inl c1);refine aP 51 [_,_,_,_,_,_,_,_,_,_,_,_,_,_,_,_,_,_,_,_,_,_,_,_,_,_,_,_,_,_,_,_,_,_,_,_,_,_,_,_,_,_,_,_,_,_,_,_,_,_,.v (.bool true)] (Gf gc 0 rfl rfl (Gl cx rfl rfl rfl rfl rfl (Gb (.bool true) (by simp[go_sem,c1]) rfl rfl rfl rfl rfl (Gk rfl (Gk rfl (Gk rfl (Gk rfl (Gk rfl (Gk rfl (Gk rfl (Gk rfl (Gk rfl (Gk rfl (Gk rfl (Gk rfl (Gk rfl (Gk rfl (Gk rfl (Gk rfl (Gk rfl (Gk rfl (Gk rfl (Gk rfl (Gk rfl (Gk rfl (Gk rfl (Gk rfl (Gk rfl (Gk rfl (Gk rfl (Gk rfl (Gk rfl (Gk rfl (Gk rfl (Gk rfl (Gk rfl (Gk rfl (Gk rfl (Gk rfl (Gk rfl (Gk rfl (Gk rfl (Gk rfl (Gk rfl (Gk rfl (Gk rfl (Gk rfl (Gk rfl (Gk rfl (Gk rfl (Gk rfl (aG)))))))))))))))))))))))))))))))))))))))))))))))))))) (fun _=>rfl) rfl ?_;intro y W4 g _;have p:=ah ht g;replace cx:=cx.ext g;clear g;have hf:Hid (Lk=3):=ae (by rw[hE.out];exact uA t.out);have hq:Hid (ig H.ma=3):=ae (by rw[ha.out (by rw[hf.out];decide),hf.out]);clear hl hg hu hr;go_wp2;go_ret;rw[hq.out];exact⟨rfl,p⟩
   have hY:Hid (H.ma.st.fs.length=H.fi.length):=ae (gK _)
   by_cases c2:(H.fi.length:Int)≤c.f
   ·have t:Hid (c.f<0∨(H.ma.st.fs.length:Int)≤c.f∨c.i<0∨((aI H.ma.st c.f).b.length:Int)≤c.i∨c.k<0∨(H.ma.m.fs.length:Int)≤c.k):=ae (.inr (.inl (by rw[hY.out];exact c2)));refine aP 51 [_,_,_,_,_,_,_,_,_,_,_,_,_,_,_,_,_,_,_,_,_,_,_,_,_,_,_,_,_,_,_,_,_,_,_,_,_,_,_,_,_,_,_,_,_,_,_,_,_,_,.v (.bool true)] (Gf gc 0 rfl rfl (Gl cx rfl rfl rfl rfl rfl (Gb (.bool false) (by simp[go_sem,c1]) rfl rfl rfl rfl rfl (Gk rfl (Gf gc 0 rfl rfl (Gl cx rfl rfl rfl rfl rfl (Gk rfl (Gk rfl (Gf b 7 rfl rfl (Gf b 7 rfl rfl (Gl z rfl rfl rfl rfl rfl (Gn rfl rfl rfl rfl (Gb (.bool true) (by simp[go_sem,c2]) rfl rfl rfl rfl rfl (Gk rfl (Gk rfl (Gk rfl (Gk rfl (Gk rfl (Gk rfl (Gk rfl (Gk rfl (Gk rfl (Gk rfl (Gk rfl (Gk rfl (Gk rfl (Gk rfl (Gk rfl (Gk rfl (Gk rfl (Gk rfl (Gk rfl (Gk rfl (Gk rfl (Gk rfl (Gk rfl (Gk rfl (Gk rfl (Gk rfl (Gk rfl (Gk rfl (Gk rfl (Gk rfl (Gk rfl (Gk rfl (Gk rfl (Gk rfl (Gk rfl (Gk rfl (Gk rfl (Gk rfl (aG)))))))))))))))))))))))))))))))))))))))))))))))))))) (fun _=>rfl) rfl ?_;intro y W4 g _;have p:=ah ht g;replace cx:=cx.ext g;clear g;have hf:Hid (Lk=3):=ae (by rw[hE.out];exact uA t.out);have hq:Hid (ig H.ma=3):=ae (by rw[ha.out (by rw[hf.out];decide),hf.out]);clear hl hg hu hr;go_wp2;go_ret;rw[hq.out];exact⟨rfl,p⟩
   replace hl:=hl (by omega) (by omega);replace hg:=hg (by omega) (by omega);obtain⟨hu,kb⟩:=hu (by omega) (by omega);replace hr:=hr (by omega) (by omega);have hG:=ae kb;clear kb
   by_cases c3:c.i<0
   ·have t:Hid (c.f<0∨(H.ma.st.fs.length:Int)≤c.f∨c.i<0∨((aI H.ma.st c.f).b.length:Int)≤c.i∨c.k<0∨(H.ma.m.fs.length:Int)≤c.k):=ae (.inr (.inr (.inl c3)));refine aP 51 [_,_,_,_,_,_,_,_,_,_,_,_,_,_,_,_,_,_,_,_,_,_,_,_,_,_,_,_,_,_,_,_,_,_,_,_,_,_,_,_,_,_,_,_,_,_,_,_,_,_,.v (.bool true)] (Gf gc 0 rfl rfl (Gl cx rfl rfl rfl rfl rfl (Gb (.bool false) (by simp[go_sem,c1]) rfl rfl rfl rfl rfl (Gk rfl (Gf gc 0 rfl rfl (Gl cx rfl rfl rfl rfl rfl (Gk rfl (Gk rfl (Gf b 7 rfl rfl (Gf b 7 rfl rfl (Gl z rfl rfl rfl rfl rfl (Gn rfl rfl rfl rfl (Gb (.bool false) (by simp[go_sem,c2]) rfl rfl rfl rfl rfl (Gk rfl (Gk rfl (Gf gc 1 rfl rfl (Gl cx rfl rfl rfl rfl rfl (Gb (.bool true) (by simp[go_sem,c3]) rfl rfl rfl rfl rfl (Gk rfl (Gk rfl (Gk rfl (Gk rfl (Gk rfl (Gk rfl (Gk rfl (Gk rfl (Gk rfl (Gk rfl (Gk rfl (Gk rfl (Gk rfl (Gk rfl (Gk rfl (Gk rfl (Gk rfl (Gk rfl (Gk rfl (Gk rfl (Gk rfl (Gk rfl (Gk rfl (Gk rfl (Gk rfl (Gk rfl (Gk rfl (Gk rfl (Gk rfl (Gk rfl (Gk rfl (Gk rfl (Gk rfl (aG)))))))))))))))))))))))))))))))))))))))))))))))))))) (fun _=>rfl) rfl ?_;intro y W4 g _;have p:=ah ht g;replace cx:=cx.ext g;clear g;have hf:Hid (Lk=3):=ae (by rw[hE.out];exact uA t.out);have hq:Hid (ig H.ma=3):=ae (by rw[ha.out (by rw[hf.out];decide),hf.out]);clear hl hg hu hr;go_wp2;go_ret;rw[hq.out];exact⟨rfl,p⟩
   by_cases c4:(P.l.length:Int)≤c.i
   ·have t:Hid (c.f<0∨(H.ma.st.fs.length:Int)≤c.f∨c.i<0∨((aI H.ma.st c.f).b.length:Int)≤c.i∨c.k<0∨(H.ma.m.fs.length:Int)≤c.k):=ae (.inr (.inr (.inr (.inl (by rw[hG.out];exact c4)))));refine aP 51 [_,_,_,_,_,_,_,_,_,_,_,_,_,_,_,_,_,_,_,_,_,_,_,_,_,_,_,_,_,_,_,_,_,_,_,_,_,_,_,_,_,_,_,_,_,_,_,_,_,_,.v (.bool true)] (Gf gc 0 rfl rfl (Gl cx rfl rfl rfl rfl rfl (Gb (.bool false) (by simp[go_sem,c1]) rfl rfl rfl rfl rfl (Gk rfl (Gf gc 0 rfl rfl (Gl cx rfl rfl rfl rfl rfl (Gk rfl (Gk rfl (Gf b 7 rfl rfl (Gf b 7 rfl rfl (Gl z rfl rfl rfl rfl rfl (Gn rfl rfl rfl rfl (Gb (.bool false) (by simp[go_sem,c2]) rfl rfl rfl rfl rfl (Gk rfl (Gk rfl (Gf gc 1 rfl rfl (Gl cx rfl rfl rfl rfl rfl (Gb (.bool false) (by simp[go_sem,c3]) rfl rfl rfl rfl rfl (Gk rfl (Gk rfl (Gf gc 1 rfl rfl (Gl cx rfl rfl rfl rfl rfl (Gk rfl (Gk rfl (Gf b 7 rfl rfl (Gf b 7 rfl rfl (Gl z (V:=.slice (some ⟨bf,of,none⟩) H.fi.length H.ci) (by simp[bP,hl]) rfl rfl rfl rfl (Gf gc 0 rfl rfl (Gl cx (V:=.int .i64 (F:Int)) (by simp[AJ,hu]) rfl rfl rfl rfl (Gr (.pointer (some ⟨bf,of+F*2,none⟩)) (fun ρ y W hb d=>(eO rfl (aV rfl d) (aV rfl d) hg underlying38 file_size)) rfl rfl (Gf bf (of+F*2+1) rfl rfl (Gc (.slice P.a P.l.length P.c) (fun W hb=>by simp[hr _ hb]) rfl rfl rfl rfl (Gn rfl rfl rfl rfl (Gb (.bool true) (by simp[go_sem,c4]) rfl rfl rfl rfl rfl (Gk rfl (Gk rfl (Gk rfl (Gk rfl (Gk rfl (Gk rfl (Gk rfl (Gk rfl (Gk rfl (Gk rfl (Gk rfl (Gk rfl (Gk rfl (Gk rfl (Gk rfl (Gk rfl (Gk rfl (aG)))))))))))))))))))))))))))))))))))))))))))))))))))) (fun _=>rfl) rfl ?_;intro y W4 g _;have p:=ah ht g;replace cx:=cx.ext g;clear g;have hf:Hid (Lk=3):=ae (by rw[hE.out];exact uA t.out);have hq:Hid (ig H.ma=3):=ae (by rw[ha.out (by rw[hf.out];decide),hf.out]);clear hl hg hu hr;go_wp2;go_ret;rw[hq.out];exact⟨rfl,p⟩
   by_cases c5:c.k<0
   ·have t:Hid (c.f<0∨(H.ma.st.fs.length:Int)≤c.f∨c.i<0∨((aI H.ma.st c.f).b.length:Int)≤c.i∨c.k<0∨(H.ma.m.fs.length:Int)≤c.k):=ae (.inr (.inr (.inr (.inr (.inl c5)))));refine aP 51 [_,_,_,_,_,_,_,_,_,_,_,_,_,_,_,_,_,_,_,_,_,_,_,_,_,_,_,_,_,_,_,_,_,_,_,_,_,_,_,_,_,_,_,_,_,_,_,_,_,_,.v (.bool true)] (Gf gc 0 rfl rfl (Gl cx rfl rfl rfl rfl rfl (Gb (.bool false) (by simp[go_sem,c1]) rfl rfl rfl rfl rfl (Gk rfl (Gf gc 0 rfl rfl (Gl cx rfl rfl rfl rfl rfl (Gk rfl (Gk rfl (Gf b 7 rfl rfl (Gf b 7 rfl rfl (Gl z rfl rfl rfl rfl rfl (Gn rfl rfl rfl rfl (Gb (.bool false) (by simp[go_sem,c2]) rfl rfl rfl rfl rfl (Gk rfl (Gk rfl (Gf gc 1 rfl rfl (Gl cx rfl rfl rfl rfl rfl (Gb (.bool false) (by simp[go_sem,c3]) rfl rfl rfl rfl rfl (Gk rfl (Gk rfl (Gf gc 1 rfl rfl (Gl cx rfl rfl rfl rfl rfl (Gk rfl (Gk rfl (Gf b 7 rfl rfl (Gf b 7 rfl rfl (Gl z (V:=.slice (some ⟨bf,of,none⟩) H.fi.length H.ci) (by simp[bP,hl]) rfl rfl rfl rfl (Gf gc 0 rfl rfl (Gl cx (V:=.int .i64 (F:Int)) (by simp[AJ,hu]) rfl rfl rfl rfl (Gr (.pointer (some ⟨bf,of+F*2,none⟩)) (fun ρ y W hb d=>(eO rfl (aV rfl d) (aV rfl d) hg underlying38 file_size)) rfl rfl (Gf bf (of+F*2+1) rfl rfl (Gc (.slice P.a P.l.length P.c) (fun W hb=>by simp[hr _ hb]) rfl rfl rfl rfl (Gn rfl rfl rfl rfl (Gb (.bool false) (by simp[go_sem,c4]) rfl rfl rfl rfl rfl (Gk rfl (Gk rfl (Gf gc 2 rfl rfl (Gl cx rfl rfl rfl rfl rfl (Gb (.bool true) (by simp[go_sem,c5]) rfl rfl rfl rfl rfl (Gk rfl (Gk rfl (Gk rfl (Gk rfl (Gk rfl (Gk rfl (Gk rfl (Gk rfl (Gk rfl (Gk rfl (Gk rfl (Gk rfl (aG)))))))))))))))))))))))))))))))))))))))))))))))))))) (fun _=>rfl) rfl ?_;intro y W4 g _;have p:=ah ht g;replace cx:=cx.ext g;clear g;have hf:Hid (Lk=3):=ae (by rw[hE.out];exact uA t.out);have hq:Hid (ig H.ma=3):=ae (by rw[ha.out (by rw[hf.out];decide),hf.out]);clear hl hg hu hr;go_wp2;go_ret;rw[hq.out];exact⟨rfl,p⟩
   by_cases c6:(H.m.fs.length:Int)≤c.k
   ·have t:Hid (c.f<0∨(H.ma.st.fs.length:Int)≤c.f∨c.i<0∨((aI H.ma.st c.f).b.length:Int)≤c.i∨c.k<0∨(H.ma.m.fs.length:Int)≤c.k):=ae (.inr (.inr (.inr (.inr (.inr c6)))));refine aP 51 [_,_,_,_,_,_,_,_,_,_,_,_,_,_,_,_,_,_,_,_,_,_,_,_,_,_,_,_,_,_,_,_,_,_,_,_,_,_,_,_,_,_,_,_,_,_,_,_,_,_,.v (.bool true)] (Gf gc 0 rfl rfl (Gl cx rfl rfl rfl rfl rfl (Gb (.bool false) (by simp[go_sem,c1]) rfl rfl rfl rfl rfl (Gk rfl (Gf gc 0 rfl rfl (Gl cx rfl rfl rfl rfl rfl (Gk rfl (Gk rfl (Gf b 7 rfl rfl (Gf b 7 rfl rfl (Gl z rfl rfl rfl rfl rfl (Gn rfl rfl rfl rfl (Gb (.bool false) (by simp[go_sem,c2]) rfl rfl rfl rfl rfl (Gk rfl (Gk rfl (Gf gc 1 rfl rfl (Gl cx rfl rfl rfl rfl rfl (Gb (.bool false) (by simp[go_sem,c3]) rfl rfl rfl rfl rfl (Gk rfl (Gk rfl (Gf gc 1 rfl rfl (Gl cx rfl rfl rfl rfl rfl (Gk rfl (Gk rfl (Gf b 7 rfl rfl (Gf b 7 rfl rfl (Gl z (V:=.slice (some ⟨bf,of,none⟩) H.fi.length H.ci) (by simp[bP,hl]) rfl rfl rfl rfl (Gf gc 0 rfl rfl (Gl cx (V:=.int .i64 (F:Int)) (by simp[AJ,hu]) rfl rfl rfl rfl (Gr (.pointer (some ⟨bf,of+F*2,none⟩)) (fun ρ y W hb d=>(eO rfl (aV rfl d) (aV rfl d) hg underlying38 file_size)) rfl rfl (Gf bf (of+F*2+1) rfl rfl (Gc (.slice P.a P.l.length P.c) (fun W hb=>by simp[hr _ hb]) rfl rfl rfl rfl (Gn rfl rfl rfl rfl (Gb (.bool false) (by simp[go_sem,c4]) rfl rfl rfl rfl rfl (Gk rfl (Gk rfl (Gf gc 2 rfl rfl (Gl cx rfl rfl rfl rfl rfl (Gb (.bool false) (by simp[go_sem,c5]) rfl rfl rfl rfl rfl (Gk rfl (Gk rfl (Gf gc 2 rfl rfl (Gl cx rfl rfl rfl rfl rfl (Gk rfl (Gk rfl (Gf b 0 rfl rfl (Gf b 0 rfl rfl (Gl z rfl rfl rfl rfl rfl (Gn rfl rfl rfl rfl (Gb (.bool true) (by simp[go_sem,c6]) rfl rfl rfl rfl rfl (Gk rfl (aG)))))))))))))))))))))))))))))))))))))))))))))))))))) (fun _=>rfl) rfl ?_;intro y W4 g _;have p:=ah ht g;replace cx:=cx.ext g;clear g;have hf:Hid (Lk=3):=ae (by rw[hE.out];exact uA t.out);have hq:Hid (ig H.ma=3):=ae (by rw[ha.out (by rw[hf.out];decide),hf.out]);clear hl hg hu hr;go_wp2;go_ret;rw[hq.out];exact⟨rfl,p⟩
   refine aP 51 [_,_,_,_,_,_,_,_,_,_,_,_,_,_,_,_,_,_,_,_,_,_,_,_,_,_,_,_,_,_,_,_,_,_,_,_,_,_,_,_,_,_,_,_,_,_,_,_,_,_,.v (.bool false)] (Gf gc 0 rfl rfl (Gl cx rfl rfl rfl rfl rfl (Gb (.bool false) (by simp[go_sem,c1]) rfl rfl rfl rfl rfl (Gk rfl (Gf gc 0 rfl rfl (Gl cx rfl rfl rfl rfl rfl (Gk rfl (Gk rfl (Gf b 7 rfl rfl (Gf b 7 rfl rfl (Gl z rfl rfl rfl rfl rfl (Gn rfl rfl rfl rfl (Gb (.bool false) (by simp[go_sem,c2]) rfl rfl rfl rfl rfl (Gk rfl (Gk rfl (Gf gc 1 rfl rfl (Gl cx rfl rfl rfl rfl rfl (Gb (.bool false) (by simp[go_sem,c3]) rfl rfl rfl rfl rfl (Gk rfl (Gk rfl (Gf gc 1 rfl rfl (Gl cx rfl rfl rfl rfl rfl (Gk rfl (Gk rfl (Gf b 7 rfl rfl (Gf b 7 rfl rfl (Gl z (V:=.slice (some ⟨bf,of,none⟩) H.fi.length H.ci) (by simp[bP,hl]) rfl rfl rfl rfl (Gf gc 0 rfl rfl (Gl cx (V:=.int .i64 (F:Int)) (by simp[AJ,hu]) rfl rfl rfl rfl (Gr (.pointer (some ⟨bf,of+F*2,none⟩)) (fun ρ y W hb d=>(eO rfl (aV rfl d) (aV rfl d) hg underlying38 file_size)) rfl rfl (Gf bf (of+F*2+1) rfl rfl (Gc (.slice P.a P.l.length P.c) (fun W hb=>by simp[hr _ hb]) rfl rfl rfl rfl (Gn rfl rfl rfl rfl (Gb (.bool false) (by simp[go_sem,c4]) rfl rfl rfl rfl rfl (Gk rfl (Gk rfl (Gf gc 2 rfl rfl (Gl cx rfl rfl rfl rfl rfl (Gb (.bool false) (by simp[go_sem,c5]) rfl rfl rfl rfl rfl (Gk rfl (Gk rfl (Gf gc 2 rfl rfl (Gl cx rfl rfl rfl rfl rfl (Gk rfl (Gk rfl (Gf b 0 rfl rfl (Gf b 0 rfl rfl (Gl z rfl rfl rfl rfl rfl (Gn rfl rfl rfl rfl (Gb (.bool false) (by simp[go_sem,c6]) rfl rfl rfl rfl rfl (Gk rfl (aG)))))))))))))))))))))))))))))))))))))))))))))))))))) (fun _=>rfl) rfl ?_;intro y W4 g _;have p:=ah ht g;replace cx:=cx.ext g;clear g;obtain⟨K,kg⟩:∃K:Nat,c.k=K:=⟨c.k.toNat,by omega⟩;have hO:K<H.m.fs.length:=by omega
   have hR:=hbk.ext p;have h5:=h.below p;obtain⟨bg,og,kr,hF⟩:=nU iR (by decide) h5.fr.rd K hO;have hy:Hid (Lk=if (aD H.ma K).r<1∨(aD H.ma K).f≠c.f∨(aD H.ma K).i≠c.i then 7 else match xZ H.ca k with
    | none=>0
    | some q=>if c.f<q.f∨q.f=c.f∧c.i≤q.i then 2 else 0):=ae (by
    rw[hE.out];unfold tN;rw[if_neg (by rw[hY.out,hG.out];show ¬(c.f<0∨(H.fi.length:Int)≤c.f∨c.i<0∨(P.l.length:Int)≤c.i∨c.k<0∨(H.m.fs.length:Int)≤c.k);omega),kg];rfl)
   have h3:H.m.fs[K]=aD H.ma K:=by have:=tF (m:=H.ma) (f:=K) hO;have h2:H.m.fs[K]?=some (aD H.ma K):=this;rw[aN hO] at h2;exact aT h2
   rw[h3] at hF;generalize aD H.ma K=x at *
   clear h3 hl hg hr hG hY z hV c2 c3 c4 c5 c6 c1 hE hu;go_upto_region 6 with (fail);refine aP 10 [_,_,_,_,_,_,_,_,_,.r 9 ((fe W4.heap.size 132 13))] (Gk rfl (Gk rfl (Gf b 0 rfl rfl (Gf b 0 rfl rfl (Gl hR (V:=.slice (some ⟨bg,og,none⟩) H.m.fs.length H.cf) (by simp[bP,kr]) rfl rfl rfl rfl (Gf gc 2 rfl rfl (Gl cx (V:=.int .i64 (K:Int)) (by simp[AJ,kg]) rfl rfl rfl rfl (Gr (.pointer (some ⟨bg,og+K*13,none⟩)) (fun ρ y W hb d=>(eO rfl (aV rfl d) (aV rfl d) hO underlying29 frame_size)) rfl rfl (Gr (.agg (yG x)) (fun ρ y W hb d=>(bM rfl (aV rfl d) (hF.below hb) underlying132 rfl frame_size)) rfl rfl (aj ?_ (aG))))))))))) (fun _=>rfl) rfl ?_
   ·intro ρ y W hw hn hb hd;refine gH (.pointer (some ⟨W.heap.size,0,none⟩)) (ag rfl) (by simp[execOp,go_sem]) ((Below.refl _ _).alloc (az _) (.cells #[.int .u8 0,.int .u8 0,.int .u8 0,.int .u8 0,.int .u8 0,.int .u8 0,.int .u8 0,.int .u8 0,.int .i64 0,.bool false,.bool false,.int .i64 0,.int .i64 0] 132)) ?_;exact⟨_,_,rfl,hb.size,aJ.new _ _ _,rfl⟩
   intro y W5 hI hU;have kn:((fe W4.heap.size 132 13)).r (y 9) W5:=hU 9 (by decide);clear hU;obtain⟨gx,curx,h9,h8,ki,hQ⟩:=kn;rw[h9]
   go_wp2_with (refine fI rfl _ _ _ rfl gx 0 (yG x) rfl rfl _ _ ki (by rw[hQ];exact az _) frame_size (uW x) ?_)
   intro w6 hZ ka;rw[eB _ _ (by rw[hQ];rfl)] at hZ;have hC:Below W4.heap.size W4 w6:=hI.grown ka hI.size (fun k hk=>by cases hk;exact h8);have hm:=ah p hC;have cx6:=cx.ext hC;have n:=hbk.ext hm;clear ki hI ka cx hR h5 hF hC h9;have kc:=hZ.cell;unfold yG at kc;have ke:=cx6.cell;unfold AJ at ke
   by_cases d1:x.r<1
   ·have hB:Hid (Lk=7):=ae (by rw[hy.out,if_pos (.inl d1)]);have hq:Hid (ig H.ma=7):=ae (by rw[ha.out (by rw[hB.out];decide),hB.out]);clear n;go_wp2;go_ret;rw[hq.out];exact⟨rfl,hm⟩
   by_cases d2:x.f=c.f
   rotate_left
   ·have hB:Hid (Lk=7):=ae (by rw[hy.out,if_pos (.inr (.inl d2))]);have hq:Hid (ig H.ma=7):=ae (by rw[ha.out (by rw[hB.out];decide),hB.out]);clear n;go_wp2;go_ret;rw[hq.out];exact⟨rfl,hm⟩
   by_cases d3:x.i=c.i
   rotate_left
   ·have hB:Hid (Lk=7):=ae (by rw[hy.out,if_pos (.inr (.inr d3))]);have hq:Hid (ig H.ma=7):=ae (by rw[ha.out (by rw[hB.out];decide),hB.out]);clear n;go_wp2;go_ret;rw[hq.out];exact⟨rfl,hm⟩
   rw[if_neg (by rintro (h | h | h);exact d1 h;exact h d2;exact h d3)] at hy;go_upto_region 9 with (fail);clear kc ke hZ d1 d2 d3;obtain⟨k1,q,hh,o,hp,hx,h7⟩:∃(k1:Nat) (q:Cc),(0<k→IntKind.i64.wrap ((k:Int)-1)=(k1:Int))∧(0<k→k1<H.ca.length)∧(0<k→∀W,Below w6.heap.size w6 W→W.cell? ⟨bc,oc+k1*3,none⟩=some (.int .i64 q.f))∧(0<k→∀W,Below w6.heap.size w6 W→W.cell? ⟨bc,oc+k1*3+1,none⟩=some (.int .i64 q.i))∧(0<k→xZ H.ca k=some q):=by
    by_cases h0:0<k
    ·have hD:k-1<H.ca.length:=by omega
     have hH:∀W,Below w6.heap.size w6 W→W.cell? ⟨bc,oc+(k-1)*3,none⟩=some (.int .i64 H.ca[k-1].f)∧W.cell? ⟨bc,oc+(k-1)*3+1,none⟩=some (.int .i64 H.ca[k-1].i):=fun W hb=>by obtain⟨bc',oc',c',hT,kh,e1,e2,_⟩:=Sv (h.below (ah hm hb)).ca.rd (k-1) hD;rw[aN hD] at kh;cases kh;rw[hv] at hT;cases hT;exact⟨e1,e2⟩
     refine⟨k-1,H.ca[k-1],fun _ => ?_,fun _=>hD,fun _ W hb=>(hH W hb).1,fun _ W hb=>(hH W hb).2,fun _ => ?_⟩
     ·rw[show (k:Int)-1=((k-1:Nat):Int) by omega];exact dS _ (by omega)
     ·rw[h6.out,if_neg (by omega),aN hD]
    ·exact⟨0,zCc,fun h'=>absurd h' h0,fun h'=>absurd h' h0,fun h'=>absurd h' h0,fun h'=>absurd h' h0,fun h'=>absurd h' h0⟩
   by_cases e1:k=0
   ·have e1i:¬(0:Int)<(k:Int):=by omega
    have hK:Hid (Lk=0):=ae (by rw[hy.out,h6.out,if_pos e1]);refine aP 44 [_,_,_,_,_,_,_,_,_,_,_,_,_,_,_,_,_,_,_,_,_,_,_,_,_,_,_,_,_,_,_,_,_,_,_,_,_,_,_,_,_,_,_,.v (.bool false)] (Gk rfl (Gb (.bool false) (by simp[go_sem,e1]) rfl rfl rfl rfl rfl (Gk rfl (Gk rfl (Gk rfl (Gk rfl (Gk rfl (Gk rfl (Gk rfl (Gk rfl (Gk rfl (Gk rfl (Gk rfl (Gk rfl (Gk rfl (Gk rfl (Gk rfl (Gk rfl (Gk rfl (Gk rfl (Gk rfl (Gk rfl (Gk rfl (Gk rfl (Gk rfl (Gk rfl (Gk rfl (Gk rfl (Gk rfl (Gk rfl (Gk rfl (Gk rfl (Gk rfl (Gk rfl (Gk rfl (Gk rfl (Gk rfl (Gk rfl (Gk rfl (Gk rfl (Gk rfl (Gk rfl (Gk rfl (Gk rfl (aG))))))))))))))))))))))))))))))))))))))))))))) (fun _=>rfl) rfl ?_;intro y W7 u _;have hs:=ah hm u;clear u;have hA:=ae (hW.out hK.out);clear hp hx hh o cx6 n;go_wp2;go_roundw
    case rel=>exact⟨k+1,by omega,by go_num,hs,hA⟩
    case measure=>simp[intOf];omega
   have e1i:0<k:=by omega
   replace hh:=hh (by omega);replace o:=o (by omega);replace hp:=hp (by omega);replace hx:=hx (by omega);have hM:=ae (h7 (by omega));clear h7
   by_cases e2:c.f<q.f
   ·have t:Hid (c.f<q.f∨q.f=c.f∧c.i≤q.i):=ae (.inl e2);refine aP 44 [_,_,_,_,_,_,_,_,_,_,_,_,_,_,_,_,_,_,_,_,_,_,_,_,_,_,_,_,_,_,_,_,_,_,_,_,_,_,_,_,_,_,_,.v (.bool true)] (Gk rfl (Gb (.bool true) (by simp[go_sem,e1i]) rfl rfl rfl rfl rfl (Gk rfl (Gk rfl (Gk rfl (Gf b 9 rfl rfl (Gl n (V:=.slice (some ⟨bc,oc,none⟩) H.ca.length H.cc) (by simp[bP,hv]) rfl rfl rfl rfl (Gk rfl (Gb (.int .i64 (k1:Int)) (by simp[go_sem,hh]) rfl rfl rfl rfl rfl (Gr (.pointer (some ⟨bc,oc+k1*3,none⟩)) (fun ρ y W hb d=>(eO rfl (aV rfl d) (aV rfl d) o underlying41 cached_size)) rfl rfl (Gf bc (oc+k1*3) rfl rfl (Gc (.int .i64 q.f) (fun W hb=>by simp[hp _ hb]) rfl rfl rfl rfl (Gf gc 0 rfl rfl (Gl cx6 rfl rfl rfl rfl rfl (Gb (.bool true) (by simp[go_sem,e2]) rfl rfl rfl rfl rfl (Gk rfl (Gk rfl (Gk rfl (Gk rfl (Gk rfl (Gk rfl (Gk rfl (Gk rfl (Gk rfl (Gk rfl (Gk rfl (Gk rfl (Gk rfl (Gk rfl (Gk rfl (Gk rfl (Gk rfl (Gk rfl (Gk rfl (Gk rfl (Gk rfl (Gk rfl (Gk rfl (Gk rfl (Gk rfl (Gk rfl (Gk rfl (Gk rfl (Gk rfl (aG))))))))))))))))))))))))))))))))))))))))))))) (fun _=>rfl) rfl ?_;intro y W7 u _;have hs:=ah hm u;clear u;have hJ:Hid (Lk=2):=ae (by rw[hy.out,hM.out];simp only;rw[if_pos t.out]);have hq:Hid (ig H.ma=2):=ae (by rw[ha.out (by rw[hJ.out];decide),hJ.out]);clear hp hx hh o cx6 n;go_wp2;go_ret;rw[hq.out];exact⟨rfl,hs⟩
   by_cases e3:q.f=c.f
   ·by_cases e4:c.i≤q.i
    ·have t:Hid (c.f<q.f∨q.f=c.f∧c.i≤q.i):=ae (.inr ⟨e3,e4⟩);refine aP 44 [_,_,_,_,_,_,_,_,_,_,_,_,_,_,_,_,_,_,_,_,_,_,_,_,_,_,_,_,_,_,_,_,_,_,_,_,_,_,_,_,_,_,_,.v (.bool true)] (Gk rfl (Gb (.bool true) (by simp[go_sem,e1i]) rfl rfl rfl rfl rfl (Gk rfl (Gk rfl (Gk rfl (Gf b 9 rfl rfl (Gl n (V:=.slice (some ⟨bc,oc,none⟩) H.ca.length H.cc) (by simp[bP,hv]) rfl rfl rfl rfl (Gk rfl (Gb (.int .i64 (k1:Int)) (by simp[go_sem,hh]) rfl rfl rfl rfl rfl (Gr (.pointer (some ⟨bc,oc+k1*3,none⟩)) (fun ρ y W hb d=>(eO rfl (aV rfl d) (aV rfl d) o underlying41 cached_size)) rfl rfl (Gf bc (oc+k1*3) rfl rfl (Gc (.int .i64 q.f) (fun W hb=>by simp[hp _ hb]) rfl rfl rfl rfl (Gf gc 0 rfl rfl (Gl cx6 rfl rfl rfl rfl rfl (Gb (.bool false) (by simp[go_sem,e2]) rfl rfl rfl rfl rfl (Gk rfl (Gk rfl (Gk rfl (Gf b 9 rfl rfl (Gl n (V:=.slice (some ⟨bc,oc,none⟩) H.ca.length H.cc) (by simp[bP,hv]) rfl rfl rfl rfl (Gk rfl (Gb (.int .i64 (k1:Int)) (by simp[go_sem,hh]) rfl rfl rfl rfl rfl (Gr (.pointer (some ⟨bc,oc+k1*3,none⟩)) (fun ρ y W hb d=>(eO rfl (aV rfl d) (aV rfl d) o underlying41 cached_size)) rfl rfl (Gf bc (oc+k1*3) rfl rfl (Gc (.int .i64 q.f) (fun W hb=>by simp[hp _ hb]) rfl rfl rfl rfl (Gf gc 0 rfl rfl (Gl cx6 rfl rfl rfl rfl rfl (Gb (.bool true) (by simp[go_sem,e3]) rfl rfl rfl rfl rfl (Gk rfl (Gk rfl (Gk rfl (Gf b 9 rfl rfl (Gl n (V:=.slice (some ⟨bc,oc,none⟩) H.ca.length H.cc) (by simp[bP,hv]) rfl rfl rfl rfl (Gk rfl (Gb (.int .i64 (k1:Int)) (by simp[go_sem,hh]) rfl rfl rfl rfl rfl (Gr (.pointer (some ⟨bc,oc+k1*3,none⟩)) (fun ρ y W hb d=>(eO rfl (aV rfl d) (aV rfl d) o underlying41 cached_size)) rfl rfl (Gf bc (oc+k1*3+1) rfl rfl (Gc (.int .i64 q.i) (fun W hb=>by simp[hx _ hb]) rfl rfl rfl rfl (Gf gc 1 rfl rfl (Gl cx6 rfl rfl rfl rfl rfl (Gb (.bool true) (by simp[go_sem,e4]) rfl rfl rfl rfl rfl (Gk rfl (Gk rfl (Gk rfl (aG))))))))))))))))))))))))))))))))))))))))))))) (fun _=>rfl) rfl ?_;intro y W7 u _;have hs:=ah hm u;clear u;have hJ:Hid (Lk=2):=ae (by rw[hy.out,hM.out];simp only;rw[if_pos t.out]);have hq:Hid (ig H.ma=2):=ae (by rw[ha.out (by rw[hJ.out];decide),hJ.out]);clear hp hx hh o cx6 n;go_wp2;go_ret;rw[hq.out];exact⟨rfl,hs⟩
    have hK:Hid (Lk=0):=ae (by rw[hy.out,hM.out];simp only;rw[if_neg (by omega)]);refine aP 44 [_,_,_,_,_,_,_,_,_,_,_,_,_,_,_,_,_,_,_,_,_,_,_,_,_,_,_,_,_,_,_,_,_,_,_,_,_,_,_,_,_,_,_,.v (.bool false)] (Gk rfl (Gb (.bool true) (by simp[go_sem,e1i]) rfl rfl rfl rfl rfl (Gk rfl (Gk rfl (Gk rfl (Gf b 9 rfl rfl (Gl n (V:=.slice (some ⟨bc,oc,none⟩) H.ca.length H.cc) (by simp[bP,hv]) rfl rfl rfl rfl (Gk rfl (Gb (.int .i64 (k1:Int)) (by simp[go_sem,hh]) rfl rfl rfl rfl rfl (Gr (.pointer (some ⟨bc,oc+k1*3,none⟩)) (fun ρ y W hb d=>(eO rfl (aV rfl d) (aV rfl d) o underlying41 cached_size)) rfl rfl (Gf bc (oc+k1*3) rfl rfl (Gc (.int .i64 q.f) (fun W hb=>by simp[hp _ hb]) rfl rfl rfl rfl (Gf gc 0 rfl rfl (Gl cx6 rfl rfl rfl rfl rfl (Gb (.bool false) (by simp[go_sem,e2]) rfl rfl rfl rfl rfl (Gk rfl (Gk rfl (Gk rfl (Gf b 9 rfl rfl (Gl n (V:=.slice (some ⟨bc,oc,none⟩) H.ca.length H.cc) (by simp[bP,hv]) rfl rfl rfl rfl (Gk rfl (Gb (.int .i64 (k1:Int)) (by simp[go_sem,hh]) rfl rfl rfl rfl rfl (Gr (.pointer (some ⟨bc,oc+k1*3,none⟩)) (fun ρ y W hb d=>(eO rfl (aV rfl d) (aV rfl d) o underlying41 cached_size)) rfl rfl (Gf bc (oc+k1*3) rfl rfl (Gc (.int .i64 q.f) (fun W hb=>by simp[hp _ hb]) rfl rfl rfl rfl (Gf gc 0 rfl rfl (Gl cx6 rfl rfl rfl rfl rfl (Gb (.bool true) (by simp[go_sem,e3]) rfl rfl rfl rfl rfl (Gk rfl (Gk rfl (Gk rfl (Gf b 9 rfl rfl (Gl n (V:=.slice (some ⟨bc,oc,none⟩) H.ca.length H.cc) (by simp[bP,hv]) rfl rfl rfl rfl (Gk rfl (Gb (.int .i64 (k1:Int)) (by simp[go_sem,hh]) rfl rfl rfl rfl rfl (Gr (.pointer (some ⟨bc,oc+k1*3,none⟩)) (fun ρ y W hb d=>(eO rfl (aV rfl d) (aV rfl d) o underlying41 cached_size)) rfl rfl (Gf bc (oc+k1*3+1) rfl rfl (Gc (.int .i64 q.i) (fun W hb=>by simp[hx _ hb]) rfl rfl rfl rfl (Gf gc 1 rfl rfl (Gl cx6 rfl rfl rfl rfl rfl (Gb (.bool false) (by simp[go_sem,e4]) rfl rfl rfl rfl rfl (Gk rfl (Gk rfl (Gk rfl (aG))))))))))))))))))))))))))))))))))))))))))))) (fun _=>rfl) rfl ?_;intro y W7 u _;have hs:=ah hm u;clear u;have hA:=ae (hW.out hK.out);clear hp hx hh o cx6 n;go_wp2;go_roundw
    case rel=>exact⟨k+1,by omega,by go_num,hs,hA⟩
    case measure=>simp[intOf];omega
   have hK:Hid (Lk=0):=ae (by rw[hy.out,hM.out];simp only;rw[if_neg (by omega)]);refine aP 44 [_,_,_,_,_,_,_,_,_,_,_,_,_,_,_,_,_,_,_,_,_,_,_,_,_,_,_,_,_,_,_,_,_,_,_,_,_,_,_,_,_,_,_,.v (.bool false)] (Gk rfl (Gb (.bool true) (by simp[go_sem,e1i]) rfl rfl rfl rfl rfl (Gk rfl (Gk rfl (Gk rfl (Gf b 9 rfl rfl (Gl n (V:=.slice (some ⟨bc,oc,none⟩) H.ca.length H.cc) (by simp[bP,hv]) rfl rfl rfl rfl (Gk rfl (Gb (.int .i64 (k1:Int)) (by simp[go_sem,hh]) rfl rfl rfl rfl rfl (Gr (.pointer (some ⟨bc,oc+k1*3,none⟩)) (fun ρ y W hb d=>(eO rfl (aV rfl d) (aV rfl d) o underlying41 cached_size)) rfl rfl (Gf bc (oc+k1*3) rfl rfl (Gc (.int .i64 q.f) (fun W hb=>by simp[hp _ hb]) rfl rfl rfl rfl (Gf gc 0 rfl rfl (Gl cx6 rfl rfl rfl rfl rfl (Gb (.bool false) (by simp[go_sem,e2]) rfl rfl rfl rfl rfl (Gk rfl (Gk rfl (Gk rfl (Gf b 9 rfl rfl (Gl n (V:=.slice (some ⟨bc,oc,none⟩) H.ca.length H.cc) (by simp[bP,hv]) rfl rfl rfl rfl (Gk rfl (Gb (.int .i64 (k1:Int)) (by simp[go_sem,hh]) rfl rfl rfl rfl rfl (Gr (.pointer (some ⟨bc,oc+k1*3,none⟩)) (fun ρ y W hb d=>(eO rfl (aV rfl d) (aV rfl d) o underlying41 cached_size)) rfl rfl (Gf bc (oc+k1*3) rfl rfl (Gc (.int .i64 q.f) (fun W hb=>by simp[hp _ hb]) rfl rfl rfl rfl (Gf gc 0 rfl rfl (Gl cx6 rfl rfl rfl rfl rfl (Gb (.bool false) (by simp[go_sem,e3]) rfl rfl rfl rfl rfl (Gk rfl (Gk rfl (Gk rfl (Gk rfl (Gk rfl (Gk rfl (Gk rfl (Gk rfl (Gk rfl (Gk rfl (Gk rfl (Gk rfl (Gk rfl (Gk rfl (Gk rfl (Gk rfl (aG))))))))))))))))))))))))))))))))))))))))))))) (fun _=>rfl) rfl ?_;intro y W7 u _;have hs:=ah hm u;clear u;have hA:=ae (hW.out hK.out);clear hp hx hh o cx6 n;go_wp2;go_roundw
   case rel=>exact⟨k+1,by omega,by go_num,hs,hA⟩
   case measure=>simp[intOf];omega
  have kq:¬(k:Int)<(H.ca.length:Int):=by omega
  have hq:Hid (ig H.ma=0):=ae (by rw[km.out,su fun i hi=>hz.out i hi (by rw[kl.out] at hi;omega)]);clear hz;go_wp2;go_ret;rw[hq.out];exact⟨rfl,hN⟩
theorem PH {s:Sp} (h:eQ s.ar n<0):bV m s n=5:=by unfold bV;exact if_pos h
theorem Mf (H:MH) (P:PS) (n:Int) (b bs os:Nat) (w:World) (hbk:aJ w b (bP H) 44) (h:EM w H) (hrd:dV w (some ⟨bs,os,none⟩) (vR P)) (hg:P.good w) (har:(dI P.ar).1=0) (htb:dR P.tb=0) (hn:0≤n∧n<64) :
  Calls Tryz.prog 52 #[.pointer (some ⟨b,0,none⟩),.pointer (some ⟨bs,os,none⟩),.int .i64 n] w fun r w'=>r = .returned (.int .i64 (bV H.ma P.sp n))∧Below w.heap.size w w':=by
 have hV:∀W,Below w.heap.size w W→W.cell? ⟨bs,os+1,none⟩=some (.slice P.aa P.ar.length P.ac):=fun W hb=>by obtain⟨b',o',e,hc⟩:=(hrd.below hb) 1 _ rfl;cases e;exact hc
 go_enter func52,ntmps52;have ki:=hV w (Below.refl _ _);have hA:=hg.ars
 go_wp2_with fail
 refine (Az P.ar n P.aa P.ac _ hA.rd (by have:=hA.le;have:=hA.mx;unfold maxLen at this;omega)).mono ?_;rintro r w1 ⟨rfl,hx⟩;have hT:=hbk.ext hx;have h1:=h.below hx;have hX:=hg.below hx;have hR:=hrd.below hx;clear ki hA
 by_cases hf:eQ P.ar n<0
 ·have hq:Hid (bV H.ma P.sp n=5):=ae (PH hf);clear hT;go_wp2;go_ret;rw[hq.out];exact⟨rfl,hx⟩
 have hE:Hid (bV H.ma P.sp n=(let a:=P.ar.getD (eQ P.ar n).toNat zAr
  let e:=dB P.tb n
  if e.k=2 then (if (H.sl.length:Int)≤e.n∨a.sh=true then 7 else 0)
  else if (H.m.fs.length:Int)≤e.n then 3 else
  let f:=gL H.ma e.n;let of:=decide (0≤a.fi)&&decide (f.f=a.fi)&&decide (f.i=a.ba+n-a.fr)
  if 0≤f.f∧of=false∨a.sh=true∧of=false∨a.sh=false∧of=true∧e.w=true∨e.w=true∧a.wr=false then 7
  else if f.f<0∧e.w=true∧1<f.r then 7 else 0)):=ae (by unfold bV;exact if_neg hf)
 obtain⟨k,hk,hO,_⟩:=uK (q:=uT n) (l:=P.ar) (by show 0≤eQ P.ar n;omega);have hW : eQ P.ar n=k:=hk;rw[hW,bG,bJ,aN hO] at hE;simp only[rZ] at hE;have ku:¬(k:Int)<0:=by omega
 rw[hW];obtain⟨ba,oa,kl,hU⟩:=nU jk (by decide) hX.ars.rd k hO;have kg:=(qO har).2 _ (eX hO);have hM:=(gu kg).1;have kt:=(cz _).1 (wB htb n);generalize P.ar[k]=a at *
 generalize hge:dB P.tb n=e at *
 have ka:=ae hge;clear hk hW hf kg hge;go_upto_region 4 with (fail);refine gI 15 [_,_,_,_,_,_,_,_,_,_,_,.v (.agg (nk e)),.r 12 ((fe w1.heap.size 129 3)),.v (.pointer (some ⟨ba,oa+k*7,none⟩)),.y 14 ((Jj 12 w1.heap.size 129 (gX (.agg (nk e)))))] (fun W=>Below w1.heap.size w1 W) bn (Below.refl _ _) (Yk bn rfl (Yk bn rfl (Yf bn bs (os+1) rfl rfl (Yc bn (.slice (some ⟨ba,oa,none⟩) P.ar.length P.ac) (fun W hb=>by simp[hV _ (ah hx hb),kl]) rfl rfl rfl rfl (Yk bn rfl (Yr bn (.pointer (some ⟨ba,oa+k*7,none⟩)) (fun ρ y W hb hB=>(eO rfl (aV rfl hB) (aV rfl hB) hO underlying80 area_size)) rfl rfl (Yk bn rfl (Yk bn rfl (Yf bn bs (os+2) rfl rfl (Yr bn (.agg (rT P.ts)) (fun ρ y W hb hB=>(bM rfl (aV rfl hB) (nu (hR.below hb) 2 8) underlying112 tab_agg tab_size)) rfl rfl (Yk bn rfl (aj ?_ (aj ?_ (Yk bn rfl (aj ?_ (aG)))))))))))))))) (fun _=>rfl) rfl ?_
 ·intro ρ y W hw hn hb hd;refine eH bn hb (gX (.agg (nk e))) (fun _ _ h=>h) ?_;have kr:=hw 30 9 rfl;have h9:y 9 = .agg (rT P.ts):=hd 9 rfl;have kq:=hw 31 10 rfl;have ko:y 10 = .int .i64 n:=hd 10 rfl;have EF:∀f,ρ (.func f) = .func (.func f) #[] #[]:=fun f=>hn (.func f) trivial;refine aL _ _ (ag rfl) (aS rfl (EF _) func53 (by kernel_rfl) (by kernel_rfl) (by simp only[bT,bH,bL,kr,h9,kq,ko,EF];rfl)) ?_;refine (zq P.tb (rT P.ts) n W (hX.below hb).tb).mono ?_;rintro r w2 ⟨rfl,kj⟩;rw[ka.out];exact⟨_,rfl,kj,rfl⟩
 ·intro ρ y W hw hn hb hd;refine eH bn hb ((fe w1.heap.size 129 3)) (fun _ _ h=>h) ?_;refine gH (.pointer (some ⟨W.heap.size,0,none⟩)) (ag rfl) (by simp[execOp,go_sem,bu]) ((Below.refl _ _).alloc (az _) (.cells #[.int .i64 0,.int .i64 0,.bool false] 129)) ?_;exact⟨_,_,rfl,hb.size,aJ.new _ _ _,rfl⟩
 ·intro ρ y W hw hn hb hd;have E9:=hw 9 12 rfl;have km:=hd 12 rfl;have kp:=hw 32 11 rfl;have kn:y 11 = .agg (nk e):=hd 11 rfl;obtain⟨g3,cur3,e9,kb,ke,h7⟩:=km;refine jc (ag rfl) _ _ _ rfl g3 0 (.agg (nk e)) (nk e).toList (E9.trans e9) (kp.trans kn) rfl cur3 _ ke (by rw[h7];exact az _) entry_size (fP (by simp[nk,Value.oneCell'])) ?_;intro w1 hG h8;rw[eB cur3 _ (by rw[h7];rfl)] at hG;refine⟨hb.grown h8 hb.size (fun k hk=>by cases hk;exact kb),⟨g3,_,e9,kb,hG,rfl⟩,?_⟩;intro k hk kh
  match k,hk,kh with
  | 0,_,_=>exact fun h=>h
  | 1,_,_=>exact fun h=>h
  | 2,_,_=>exact fun h=>h
  | 3,_,_=>exact fun h=>h
  | 4,_,_=>exact fun h=>h
  | 5,_,_=>exact fun h=>h
  | 6,_,_=>exact fun h=>h
  | 7,_,_=>exact fun h=>h
  | 8,_,_=>exact fun h=>h
  | 9,_,_=>exact fun h=>h
  | 10,_,_=>exact fun h=>h
  | 11,_,_=>exact fun h=>h
  | 12,_,_=>exact fun q=>iB q hG (fun _=>rfl) ⟨_,ke⟩ h8
  | 13,_,_=>exact fun h=>h
  | 14,_,h=>exact absurd rfl h
  | n+15,h,_=>exact absurd h (by omega)
 intro y w4 hF hN;replace hF:Below w1.heap.size w1 w4:=hF;have h0:((fe w1.heap.size 129 3)).r (y 12) w4:=hN 12 (by decide);have hZ:=hN 14 (by decide);clear hN;simp only[dD,bu,bH,bL];obtain⟨ge,cce,hS,ks,kf,kc⟩:=hZ;have hY : cce=nk e:=by simpa[gX] using kc
 subst hY;rw[hS];have hz:=hF;have hm:=ah hx hz;have ex:=kf;have hs:=hbk.ext hm;have h4:=h.below hm;have hL:=hU.below hz;clear hF hz hS kf hU hR hT h1 hx hV hX h0;have hH:∀j u,(fD a)[j]?=some u→∀W,Below w4.heap.size w4 W→W.cell? ⟨ba,oa+k*7+j,none⟩=some u:=fun j u hj W hb=>by obtain⟨b',o',e',hc⟩:=(hL.below hb) j u hj;cases e';exact hc
 have hl:=hH 3 _ rfl;have hi:=hH 4 _ rfl;have t:=hH 5 _ rfl;have hC:=hH 6 _ rfl;have hD:∀W,Below w4.heap.size w4 W→W.cell? ⟨ba,oa+k*7,none⟩=some (.int .i64 a.fr):=hH 0 _ rfl;have s:=ex.cell;unfold nk at s;clear hH hL
 by_cases hk2:e.k=2
 ·rw[if_pos hk2] at hE;rw[hk2] at s;go_upto_region 6 with (fail);clear s hk2
  by_cases c1:(H.sl.length:Int)≤e.n
  ·have hq:Hid (bV H.ma P.sp n=7):=ae (by rw[hE.out,if_pos (.inl c1)]);refine aP 14 [_,_,_,_,_,_,_,_,_,_,_,_,_,.v (.bool true)] (Gf ge 1 rfl rfl (Gl ex rfl rfl rfl rfl rfl (Gk rfl (Gk rfl (Gf b 2 rfl rfl (Gl hs rfl rfl rfl rfl rfl (Gn rfl rfl rfl rfl (Gb (.bool true) (by simp[go_sem,c1]) rfl rfl rfl rfl rfl (Gk rfl (Gk rfl (Gk rfl (Gk rfl (Gk rfl (Gk rfl (aG))))))))))))))) (fun _=>rfl) rfl ?_;intro y W5 o _;have p:=ah hm o;clear o;go_wp2;go_ret;rw[hq.out];exact⟨rfl,p⟩
  cases c2:a.sh with
  | true=>
   have hq:Hid (bV H.ma P.sp n=7):=ae (by rw[hE.out,if_pos (.inr c2)]);refine aP 14 [_,_,_,_,_,_,_,_,_,_,_,_,_,.v (.bool true)] (Gf ge 1 rfl rfl (Gl ex rfl rfl rfl rfl rfl (Gk rfl (Gk rfl (Gf b 2 rfl rfl (Gl hs rfl rfl rfl rfl rfl (Gn rfl rfl rfl rfl (Gb (.bool false) (by simp[go_sem,c1]) rfl rfl rfl rfl rfl (Gk rfl (Gk rfl (Gk rfl (Gf ba (oa+k*7+4) rfl rfl (Gc (.bool true) (fun W hb=>by simp[hi _ hb,c2]) rfl rfl rfl rfl (Gk rfl (aG))))))))))))))) (fun _=>rfl) rfl ?_;intro y W5 o _;have p:=ah hm o;clear o;go_wp2;go_ret;rw[hq.out];exact⟨rfl,p⟩
  | false=>
   have hq:Hid (bV H.ma P.sp n=0):=ae (by rw[hE.out,if_neg (by rw[c2];simp;omega)]);refine aP 14 [_,_,_,_,_,_,_,_,_,_,_,_,_,.v (.bool false)] (Gf ge 1 rfl rfl (Gl ex rfl rfl rfl rfl rfl (Gk rfl (Gk rfl (Gf b 2 rfl rfl (Gl hs rfl rfl rfl rfl rfl (Gn rfl rfl rfl rfl (Gb (.bool false) (by simp[go_sem,c1]) rfl rfl rfl rfl rfl (Gk rfl (Gk rfl (Gk rfl (Gf ba (oa+k*7+4) rfl rfl (Gc (.bool false) (fun W hb=>by simp[hi _ hb,c2]) rfl rfl rfl rfl (Gk rfl (aG))))))))))))))) (fun _=>rfl) rfl ?_;intro y W5 o _;have p:=ah hm o;clear o;go_wp2;go_ret;rw[hq.out];exact⟨rfl,p⟩
 rw[if_neg hk2] at hE;obtain⟨K,hK⟩:∃K:Nat,e.n=K:=⟨e.n.toNat,by omega⟩;rw[hK] at hE;go_upto_region 9 with (fail);clear s
 by_cases c3:(H.m.fs.length:Int)≤(K:Int)
 ·have hq:Hid (bV H.ma P.sp n=3):=ae (by rw[hE.out,if_pos c3]);have c3e:(H.m.fs.length:Int)≤e.n:=by omega
  refine aP 9 [_,_,_,_,_,_,_,_,_] (Gf ge 1 rfl rfl (Gl ex rfl rfl rfl rfl rfl (Gk rfl (Gk rfl (Gf b 0 rfl rfl (Gf b 0 rfl rfl (Gl hs rfl rfl rfl rfl rfl (Gn rfl rfl rfl rfl (Gb (.bool true) (by simp[go_sem,c3e]) rfl rfl rfl rfl rfl (aG)))))))))) (fun _=>rfl) rfl ?_;intro y W5 o _;have p:=ah hm o;clear o hD hl hi t hC c3 c3e;go_wp2;go_ret;rw[hq.out];exact⟨rfl,p⟩
 rw[if_neg c3] at hE;have c3e:¬(H.m.fs.length:Int)≤e.n:=by omega
 refine aP 9 [_,_,_,_,_,_,_,_,_] (Gf ge 1 rfl rfl (Gl ex rfl rfl rfl rfl rfl (Gk rfl (Gk rfl (Gf b 0 rfl rfl (Gf b 0 rfl rfl (Gl hs rfl rfl rfl rfl rfl (Gn rfl rfl rfl rfl (Gb (.bool false) (by simp[go_sem,c3e]) rfl rfl rfl rfl rfl (aG)))))))))) (fun _=>rfl) rfl ?_;intro y W5 o _;have p:=ah hm o;have hQ:K<H.m.fs.length:=by omega
 replace ex:=ex.ext o;have hp:=hbk.ext p;have h5:=h.below p;have sh:∀ {u:Value} {z:Addr},(∀W,Below w4.heap.size w4 W→W.cell? z=some u)→∀W,Below W5.heap.size W5 W→W.cell? z=some u:=fun hh W hb=>hh W (ah o hb);replace hD:=sh hD;replace hl:=sh hl;replace hi:=sh hi;replace t:=sh t;replace hC:=sh hC;obtain⟨bg,og,kk,hr⟩:=nU iR (by decide) h5.fr.rd K hQ;have h3:H.m.fs[K]=aD H.ma K:=by have:=tF (m:=H.ma) (f:=K) hQ;have h2:H.m.fs[K]?=some (aD H.ma K):=this;rw[aN hQ] at h2;exact aT h2
 rw[h3] at hr;have c:Hid (bV H.ma P.sp n=(let of:=decide (0≤a.fi)&&decide ((aD H.ma K).f=a.fi)&&decide ((aD H.ma K).i=a.ba+n-a.fr)
  if 0≤(aD H.ma K).f∧of=false∨a.sh=true∧of=false∨a.sh=false∧of=true∧e.w=true∨e.w=true∧a.wr=false then 7
  else if (aD H.ma K).f<0∧e.w=true∧1<(aD H.ma K).r then 7 else 0)):=ae (by rw[hE.out];rfl)
 generalize aD H.ma K=x at *
 clear hE h3 o hs h4 hm c3 sh;go_upto_region 11 with (fail);refine aP 9 [_,_,_,_,_,_,_,_,.v (.pointer (some ⟨bg,og+K*13,none⟩))] (Gk rfl (Gk rfl (Gf b 0 rfl rfl (Gf b 0 rfl rfl (Gl hp (V:=.slice (some ⟨bg,og,none⟩) H.m.fs.length H.cf) (by simp[bP,kk]) rfl rfl rfl rfl (Gf ge 1 rfl rfl (Gl ex (V:=.int .i64 (K:Int)) (by simp[nk,hK]) rfl rfl rfl rfl (Gr (.pointer (some ⟨bg,og+K*13,none⟩)) (fun ρ y W hb hB=>(eO rfl (aV rfl hB) (aV rfl hB) hQ underlying29 frame_size)) rfl rfl (Gk rfl (aG)))))))))) (fun _=>rfl) rfl ?_;intro y W7 hv _;have hJ:=ah p hv;have ex7:=ex.ext hv;have kd:=hbk.ext hJ;have sh:∀ {u:Value} {z:Addr},(∀W,Below W5.heap.size W5 W→W.cell? z=some u)→∀W,Below W7.heap.size W7 W→W.cell? z=some u:=fun hh W hb=>hh W (ah hv hb);replace hD:=sh hD;replace hl:=sh hl;replace hi:=sh hi;replace t:=sh t;replace hC:=sh hC;have hI:=hr.below hv;clear ex hp hv sh hr p h5;have hG:IntKind.i64.wrap (a.ba+n)=a.ba+n:=dS _ (by obtain⟨⟨z1,z2⟩,⟨z3,z4⟩,z5,z6⟩:=hM;omega);have h6:IntKind.i64.wrap (a.ba+n-a.fr)=a.ba+n-a.fr:=dS _ (by obtain⟨⟨z1,z2⟩,⟨z3,z4⟩,z5,z6⟩:=hM;omega);go_upto_region 12 with (fail);refine aP 12 [_,_,_,_,_,_,_,_,_,_,_,.v (.int .i64 (a.ba+n-a.fr))] (Gk rfl (Gk rfl (Gf ba (oa+k*7+6) rfl rfl (Gc (.int .i64 a.ba) (fun W hb=>by simp[hC _ hb]) rfl rfl rfl rfl (Gk rfl (Gb (.int .i64 (a.ba+n)) (by simp[go_sem,hG]) rfl rfl rfl rfl rfl (Gk rfl (Gk rfl (Gf ba (oa+k*7) rfl rfl (Gc (.int .i64 a.fr) (fun W hb=>by simp[hD _ hb]) rfl rfl rfl rfl (Gb (.int .i64 (a.ba+n-a.fr)) (by simp[go_sem,h6]) rfl rfl rfl rfl rfl (Gk rfl (aG))))))))))))) (fun _=>rfl) rfl ?_;intro y W5 o _;have p:=ah hJ o;have ex:=ex7.ext o;have hp:=hbk.ext p;have sh:∀ {u:Value} {z:Addr},(∀W,Below W7.heap.size W7 W→W.cell? z=some u)→∀W,Below W5.heap.size W5 W→W.cell? z=some u:=fun hh W hb=>hh W (ah o hb);replace hl:=sh hl;replace hi:=sh hi;replace t:=sh t;have hr:=hI.below o;clear ex7 kd o sh hI hJ hG h6 hD hC;have hP:∀j u,(oO x)[j]?=some u→∀W,Below W5.heap.size W5 W→W.cell? ⟨bg,og+K*13+j,none⟩=some u:=fun j u hj W hb=>by obtain⟨b',o',e',hc⟩:=(hr.below hb) j u hj;cases e';exact hc
 have hy:=hP 8 _ rfl;have ha:=hP 11 _ rfl;have ht:=hP 12 _ rfl;clear hP hr;go_upto_region 13 with (fail)
 by_cases g1:0≤a.fi
 ·by_cases g2:x.f=a.fi
  ·by_cases g3:x.i=a.ba+n-a.fr
   ·skip;refine aP 25 [_,_,_,_,_,_,_,_,_,_,_,_,_,_,_,_,_,_,_,_,_,_,_,_,.v (.bool true)] (Gk rfl (Gk rfl (Gf ba (oa+k*7+5) rfl rfl (Gc (.int .i64 a.fi) (fun W hb=>by simp[t _ hb]) rfl rfl rfl rfl (Gb (.bool true) (by simp[go_sem,g1]) rfl rfl rfl rfl rfl (Gk rfl (Gk rfl (Gk rfl (Gf bg (og+K*13+11) rfl rfl (Gc (.int .i64 x.f) (fun W hb=>by simp[ha _ hb]) rfl rfl rfl rfl (Gk rfl (Gk rfl (Gf ba (oa+k*7+5) rfl rfl (Gc (.int .i64 a.fi) (fun W hb=>by simp[t _ hb]) rfl rfl rfl rfl (Gb (.bool true) (by simp[go_sem,g2]) rfl rfl rfl rfl rfl (Gk rfl (Gk rfl (Gk rfl (Gk rfl (Gf bg (og+K*13+12) rfl rfl (Gc (.int .i64 x.i) (fun W hb=>by simp[ht _ hb]) rfl rfl rfl rfl (Gk rfl (Gb (.bool true) (by simp[go_sem,g3]) rfl rfl rfl rfl rfl (Gk rfl (Gk rfl (aG)))))))))))))))))))))))))) (fun _=>rfl) rfl ?_;intro y W6 d _;have g:=ah p d;have x8:=hy _ d;have x11:=ha _ d;have a3:=hl _ d;have a4:=hi _ d;have s:=(ex.ext d).cell;unfold nk at s;clear d hl hi t hy ha ht ex hp;have f1:0≤x.f:=by omega
    have f1n:¬x.f<0:=by omega
    replace c:Hid (bV H.ma P.sp n=if a.sh=false∧e.w=true∨e.w=true∧a.wr=false then 7 else 0):=ae (by rw[c.out,decide_eq_true g1,decide_eq_true g2,decide_eq_true g3];simp[f1n]);clear g2 g3;cases f2:a.sh with
    | true=>
     rw[f2] at a4;cases f3:e.w with
     | false=>
      rw[f3] at s;have hq:Hid (bV H.ma P.sp n=0):=ae (by rw[c.out];simp[*];try omega);clear c;go_wp2;go_ret;rw[hq.out];exact⟨rfl,g⟩
     | true=>
      rw[f3] at s;cases f4:a.wr with
      | false=>
       rw[f4] at a3;have hq:Hid (bV H.ma P.sp n=7):=ae (by rw[c.out];simp[*];try omega);clear c;go_wp2;go_ret;rw[hq.out];exact⟨rfl,g⟩
      | true=>
       rw[f4] at a3;have hq:Hid (bV H.ma P.sp n=0):=ae (by rw[c.out];simp[*];try omega);clear c;go_wp2;go_ret;rw[hq.out];exact⟨rfl,g⟩
    | false=>
     rw[f2] at a4;cases f3:e.w with
     | true=>
      rw[f3] at s;have hq:Hid (bV H.ma P.sp n=7):=ae (by rw[c.out];simp[*];try omega);clear c;go_wp2;go_ret;rw[hq.out];exact⟨rfl,g⟩
     | false=>
      rw[f3] at s;have hq:Hid (bV H.ma P.sp n=0):=ae (by rw[c.out];simp[*];try omega);clear c;go_wp2;go_ret;rw[hq.out];exact⟨rfl,g⟩
   skip;refine aP 25 [_,_,_,_,_,_,_,_,_,_,_,_,_,_,_,_,_,_,_,_,_,_,_,_,.v (.bool false)] (Gk rfl (Gk rfl (Gf ba (oa+k*7+5) rfl rfl (Gc (.int .i64 a.fi) (fun W hb=>by simp[t _ hb]) rfl rfl rfl rfl (Gb (.bool true) (by simp[go_sem,g1]) rfl rfl rfl rfl rfl (Gk rfl (Gk rfl (Gk rfl (Gf bg (og+K*13+11) rfl rfl (Gc (.int .i64 x.f) (fun W hb=>by simp[ha _ hb]) rfl rfl rfl rfl (Gk rfl (Gk rfl (Gf ba (oa+k*7+5) rfl rfl (Gc (.int .i64 a.fi) (fun W hb=>by simp[t _ hb]) rfl rfl rfl rfl (Gb (.bool true) (by simp[go_sem,g2]) rfl rfl rfl rfl rfl (Gk rfl (Gk rfl (Gk rfl (Gk rfl (Gf bg (og+K*13+12) rfl rfl (Gc (.int .i64 x.i) (fun W hb=>by simp[ht _ hb]) rfl rfl rfl rfl (Gk rfl (Gb (.bool false) (by simp[go_sem,g3]) rfl rfl rfl rfl rfl (Gk rfl (Gk rfl (aG)))))))))))))))))))))))))) (fun _=>rfl) rfl ?_;intro y W6 d _;have g:=ah p d;have x8:=hy _ d;have x11:=ha _ d;have a3:=hl _ d;have a4:=hi _ d;have s:=(ex.ext d).cell;unfold nk at s;clear d hl hi t hy ha ht ex hp;have hu:(decide (0≤a.fi)&&decide (x.f=a.fi)&&decide (x.i=a.ba+n-a.fr))=false:=by simp[*]
   replace c:Hid (bV H.ma P.sp n=if 0≤x.f∨a.sh=true∨e.w=true∧a.wr=false then 7 else if x.f<0∧e.w=true∧1<x.r then 7 else 0):=ae (by rw[c.out,hu];simp);clear hu g2 g3
   by_cases f1:0≤x.f
   ·skip;have hq:Hid (bV H.ma P.sp n=7):=ae (by rw[c.out];simp[*];try omega);clear c;go_wp2;go_ret;rw[hq.out];exact⟨rfl,g⟩
   have f1n:x.f<0:=by omega
   cases f2:a.sh with
   | true=>
    rw[f2] at a4;have hq:Hid (bV H.ma P.sp n=7):=ae (by rw[c.out];simp[*];try omega);clear c;go_wp2;go_ret;rw[hq.out];exact⟨rfl,g⟩
   | false=>
    rw[f2] at a4;cases f3:e.w with
    | false=>
     rw[f3] at s;have hq:Hid (bV H.ma P.sp n=0):=ae (by rw[c.out];simp[*];try omega);clear c;go_wp2;go_ret;rw[hq.out];exact⟨rfl,g⟩
    | true=>
     rw[f3] at s;cases f4:a.wr with
     | false=>
      rw[f4] at a3;have hq:Hid (bV H.ma P.sp n=7):=ae (by rw[c.out];simp[*];try omega);clear c;go_wp2;go_ret;rw[hq.out];exact⟨rfl,g⟩
     | true=>
      rw[f4] at a3
      by_cases f5:1<x.r
      ·skip;have hq:Hid (bV H.ma P.sp n=7):=ae (by rw[c.out];simp[*];try omega);clear c;go_wp2;go_ret;rw[hq.out];exact⟨rfl,g⟩
      skip;have hq:Hid (bV H.ma P.sp n=0):=ae (by rw[c.out];simp[*];try omega);clear c;go_wp2;go_ret;rw[hq.out];exact⟨rfl,g⟩
  skip;refine aP 25 [_,_,_,_,_,_,_,_,_,_,_,_,_,_,_,_,_,_,_,_,_,_,_,_,.v (.bool false)] (Gk rfl (Gk rfl (Gf ba (oa+k*7+5) rfl rfl (Gc (.int .i64 a.fi) (fun W hb=>by simp[t _ hb]) rfl rfl rfl rfl (Gb (.bool true) (by simp[go_sem,g1]) rfl rfl rfl rfl rfl (Gk rfl (Gk rfl (Gk rfl (Gf bg (og+K*13+11) rfl rfl (Gc (.int .i64 x.f) (fun W hb=>by simp[ha _ hb]) rfl rfl rfl rfl (Gk rfl (Gk rfl (Gf ba (oa+k*7+5) rfl rfl (Gc (.int .i64 a.fi) (fun W hb=>by simp[t _ hb]) rfl rfl rfl rfl (Gb (.bool false) (by simp[go_sem,g2]) rfl rfl rfl rfl rfl (Gk rfl (Gk rfl (Gk rfl (Gk rfl (Gk rfl (Gk rfl (Gk rfl (Gk rfl (Gk rfl (Gk rfl (aG)))))))))))))))))))))))))) (fun _=>rfl) rfl ?_;intro y W6 d _;have g:=ah p d;have x8:=hy _ d;have x11:=ha _ d;have a3:=hl _ d;have a4:=hi _ d;have s:=(ex.ext d).cell;unfold nk at s;clear d hl hi t hy ha ht ex hp;have hu:(decide (0≤a.fi)&&decide (x.f=a.fi)&&decide (x.i=a.ba+n-a.fr))=false:=by simp[*]
  replace c:Hid (bV H.ma P.sp n=if 0≤x.f∨a.sh=true∨e.w=true∧a.wr=false then 7 else if x.f<0∧e.w=true∧1<x.r then 7 else 0):=ae (by rw[c.out,hu];simp);clear hu g2
  by_cases f1:0≤x.f
  ·skip;have hq:Hid (bV H.ma P.sp n=7):=ae (by rw[c.out];simp[*];try omega);clear c;go_wp2;go_ret;rw[hq.out];exact⟨rfl,g⟩
  have f1n:x.f<0:=by omega
  cases f2:a.sh with
  | true=>
   rw[f2] at a4;have hq:Hid (bV H.ma P.sp n=7):=ae (by rw[c.out];simp[*];try omega);clear c;go_wp2;go_ret;rw[hq.out];exact⟨rfl,g⟩
  | false=>
   rw[f2] at a4;cases f3:e.w with
   | false=>
    rw[f3] at s;have hq:Hid (bV H.ma P.sp n=0):=ae (by rw[c.out];simp[*];try omega);clear c;go_wp2;go_ret;rw[hq.out];exact⟨rfl,g⟩
   | true=>
    rw[f3] at s;cases f4:a.wr with
    | false=>
     rw[f4] at a3;have hq:Hid (bV H.ma P.sp n=7):=ae (by rw[c.out];simp[*];try omega);clear c;go_wp2;go_ret;rw[hq.out];exact⟨rfl,g⟩
    | true=>
     rw[f4] at a3
     by_cases f5:1<x.r
     ·skip;have hq:Hid (bV H.ma P.sp n=7):=ae (by rw[c.out];simp[*];try omega);clear c;go_wp2;go_ret;rw[hq.out];exact⟨rfl,g⟩
     skip;have hq:Hid (bV H.ma P.sp n=0):=ae (by rw[c.out];simp[*];try omega);clear c;go_wp2;go_ret;rw[hq.out];exact⟨rfl,g⟩
 skip;refine aP 25 [_,_,_,_,_,_,_,_,_,_,_,_,_,_,_,_,_,_,_,_,_,_,_,_,.v (.bool false)] (Gk rfl (Gk rfl (Gf ba (oa+k*7+5) rfl rfl (Gc (.int .i64 a.fi) (fun W hb=>by simp[t _ hb]) rfl rfl rfl rfl (Gb (.bool false) (by simp[go_sem,g1]) rfl rfl rfl rfl rfl (Gk rfl (Gk rfl (Gk rfl (Gk rfl (Gk rfl (Gk rfl (Gk rfl (Gk rfl (Gk rfl (Gk rfl (Gk rfl (Gk rfl (Gk rfl (Gk rfl (Gk rfl (Gk rfl (Gk rfl (Gk rfl (Gk rfl (Gk rfl (aG)))))))))))))))))))))))))) (fun _=>rfl) rfl ?_;intro y W6 d _;have g:=ah p d;have x8:=hy _ d;have x11:=ha _ d;have a3:=hl _ d;have a4:=hi _ d;have s:=(ex.ext d).cell;unfold nk at s;clear d hl hi t hy ha ht ex hp;have hu:(decide (0≤a.fi)&&decide (x.f=a.fi)&&decide (x.i=a.ba+n-a.fr))=false:=by simp[*]
 replace c:Hid (bV H.ma P.sp n=if 0≤x.f∨a.sh=true∨e.w=true∧a.wr=false then 7 else if x.f<0∧e.w=true∧1<x.r then 7 else 0):=ae (by rw[c.out,hu];simp);clear hu g1
 by_cases f1:0≤x.f
 ·skip;have hq:Hid (bV H.ma P.sp n=7):=ae (by rw[c.out];simp[*];try omega);clear c;go_wp2;go_ret;rw[hq.out];exact⟨rfl,g⟩
 have f1n:x.f<0:=by omega
 cases f2:a.sh with
 | true=>
  rw[f2] at a4;have hq:Hid (bV H.ma P.sp n=7):=ae (by rw[c.out];simp[*];try omega);clear c;go_wp2;go_ret;rw[hq.out];exact⟨rfl,g⟩
 | false=>
  rw[f2] at a4;cases f3:e.w with
  | false=>
   rw[f3] at s;have hq:Hid (bV H.ma P.sp n=0):=ae (by rw[c.out];simp[*];try omega);clear c;go_wp2;go_ret;rw[hq.out];exact⟨rfl,g⟩
  | true=>
   rw[f3] at s;cases f4:a.wr with
   | false=>
    rw[f4] at a3;have hq:Hid (bV H.ma P.sp n=7):=ae (by rw[c.out];simp[*];try omega);clear c;go_wp2;go_ret;rw[hq.out];exact⟨rfl,g⟩
   | true=>
    rw[f4] at a3
    by_cases f5:1<x.r
    ·skip;have hq:Hid (bV H.ma P.sp n=7):=ae (by rw[c.out];simp[*];try omega);clear c;go_wp2;go_ret;rw[hq.out];exact⟨rfl,g⟩
    skip;have hq:Hid (bV H.ma P.sp n=0):=ae (by rw[c.out];simp[*];try omega);clear c;go_wp2;go_ret;rw[hq.out];exact⟨rfl,g⟩
def isK (i:Int) (c:Cc):Bool:=decide (c.k=i)
theorem Lg (c:Cc) (i:Int) (g:Nat) (w:World) (hg:aJ w g #[.int .i64 i] 3) :
  Calls Tryz.prog 55 #[.agg (AJ c),.pointer (some ⟨g,0,none⟩)] w fun r w'=>r = .returned (.bool (isK i c))∧Below w.heap.size w w':=by
 go_enter func55,ntmps55;go_upto_region 1 with (fail);refine je (fun W=>Code.wp _ _ _ _ W) fun W0 a b d => ?_;clear d;have e:=(hg.ext a).cell 0;have f:=b.cell;have q2:(AJ c)[2]?=some (.int .i64 c.k):=rfl;go_wp2;go_ret;exact⟨bS (by unfold isK;rfl),a⟩
theorem QK (l:List Cc) (a:Option Addr) (c:Nat) (w:World) (hrd:dV w a (l.flatMap jO)) (hl:l.length≤9223372036854775807) (g:Nat) (kk:Int) (hg:aJ w g #[.int .i64 kk] 3) :
  Calls Tryz.prog 99 #[.slice a l.length c,.func (.func 55) #[] #[.pointer (some ⟨g,0,none⟩)]] w fun e w'=>e = .returned (.int .i64 (idx (isK kk) l))∧Below w.heap.size w w':=by
 go_enter func99,ntmps99;go_wp2
 go_loopw [8] (fun i wr => ∃k:Nat,k≤l.length∧i = .int .i64 k∧Below w.heap.size w wr∧∀i (h:i<l.length),i<k→(isK kk) l[i]=false) (fun i _=>l.length-(intOf i).toNat)
 case atStart=>exact⟨0,bK _,rfl,Below.refl _ _,fun i _ h=>absurd h (gT _)⟩
 case round=>
  obtain⟨k,hk,rfl,j,n⟩:=hrel;have hp:=ae n;clear n
  by_cases hlt:k<l.length
  ·obtain⟨b,off,rfl,p⟩:=NL (hrd.below j) k hlt
   go_wp2_with (refine aA _ _ rfl b (off+k*3) rfl rfl _ p _ underlying124 rfl cached_size ?_)
   refine (Lg l[k] kk g _ (hg.ext j)).mono ?_;rintro e w2 ⟨rfl,o⟩;have f:=ah j o;clear o;cases hpk:(isK kk) l[k]
   ·have m:=ae hpk;clear hpk;go_wp2;go_roundw
    case rel=>exact⟨k+1,by omega,by go_num,f,nz hp.out hlt m.out⟩
    case measure=>simp[intOf];omega
   have d:=ae (oI (isK kk) l k hlt hp.out hpk);clear hpk;go_wp2;go_ret;exact⟨bq d.out.symm,f⟩
  have d:=ae (jW (isK kk) l fun i h=>hp.out i h (by omega));go_wp2;go_ret;exact⟨bq d.out.symm,j⟩
theorem SG (l:List Cc) (a:Option Addr) (c:Nat) (w:World) (hrd:dV w a (l.flatMap jO)) (hl:l.length≤9223372036854775807) (g:Nat) (kk:Int) (hg:aJ w g #[.int .i64 kk] 3) :
  Calls Tryz.prog 54 #[.slice a l.length c,.func (.func 55) #[] #[.pointer (some ⟨g,0,none⟩)]] w fun e w'=>e = .returned (.bool (l.any (isK kk)))∧Below w.heap.size w w':=by
 go_enter func54,ntmps54
 go_wp2_with fail
 refine (QK l a c _ hrd hl g kk hg).mono ?_;rintro e w2 ⟨rfl,b⟩;go_wp2;go_ret;exact⟨bS (qH _ _),b⟩
theorem JY (l m:List Int) (a a' : Option Addr) (c c' : Nat) (w:World) (hrd:dV w a (l.map gQ)) (hrd' : dV w a' (m.map gQ)) (hl:l.length≤9223372036854775807) (hl' : m.length≤9223372036854775807) :
  Calls Tryz.prog 56 #[.slice a l.length c,.slice a' m.length c'] w fun e w'=>e = .returned (.bool (l==m))∧Below w.heap.size w w':=by
 go_enter func56,ntmps56
 by_cases hlm:l.length=m.length
 ·have f:((l.length:Int) != (m.length:Int))=false:=by simp[hlm]
  go_wp2
  go_loopw [13] (fun i wr => ∃k:Nat,k≤l.length∧i = .int .i64 k∧Below w.heap.size w wr∧∀i (h:i<l.length),i<k→l[i]=m[i]'(by omega)) (fun i _=>l.length-(intOf i).toNat)
  case atStart=>exact⟨0,bK _,rfl,Below.refl _ _,fun i _ h=>absurd h (gT _)⟩
  case round=>
   obtain⟨k,hk,rfl,d,hp⟩:=hrel
   by_cases hlt:k<l.length
   ·obtain⟨b,off,rfl,hc⟩:=lK (hrd.below d) k hlt;obtain⟨b',off',rfl,g⟩:=lK (hrd'.below d) k (by omega);have k1:(k:Int)<(m.length:Int):=by omega
    go_wp2_with fail
    go_quiet (fail)
    by_cases he:l[k]=m[k]'(by omega)
    ·have hz:(l[k] != m[k]'(by omega))=false:=by simp[he]
     go_wp2;go_roundw
     case rel=>exact⟨k+1,by omega,by go_num,below_drewN d _,upto hp hlt he⟩
     case measure=>simp[intOf];omega
    have hz:(l[k] != m[k]'(by omega))=true:=by simp[he]
    go_wp2;go_ret;exact⟨bS (Qq k hlt (by omega) he).symm,below_drewN d _⟩
   go_wp2
   all_goals
    go_ret;exact⟨bS (Oc hlm fun i h=>hp i h (by omega)).symm,d⟩
 have f:((l.length:Int) != (m.length:Int))=true:=by simp;omega
 go_wp2;go_ret;refine⟨bS ?_,Below.refl _ _⟩;symm;rw[beq_eq_false_iff_ne];rintro rfl;exact hlm rfl
theorem mi (n:Nat) (l:List Int):(kD n l).length=n:=by simp[kD]
theorem nK (n:Nat) (l:List Int) (i:Nat) (hi:i<n):(kD n l)[i]?=some (cnt l i:Int):=by simp[kD,hi]
theorem JW (l:List Int) (k i:Int):cnt (l++[k]) i=cnt l i+(if k=i then 1 else 0):=by
 rw[zI];congr 1;unfold cnt;rw[qg,List.countP_nil]
 by_cases h:k=i
 ·simp[h]
 ·simp[h]
theorem Ed (n:Nat) (l:List Int) (k:Nat) (hk:k<n):(kD n l).set k ((cnt l k:Int)+1)=kD n (l++[(k:Int)]):=by
 apply pM;intro i;rw[oh,mi]
 by_cases e:k=i
 ·subst e;rw[if_pos rfl,if_pos hk,nK _ _ _ hk,JW,if_pos rfl];simp
 rw[if_neg e]
 by_cases hi:i<n
 ·rw[nK _ _ _ hi,nK _ _ _ hi,JW,if_neg (by omega)];rfl
 ·rw[eU (by rw[mi];omega),eU (by rw[mi];omega)]
theorem IE (n:Nat):kD n []=List.replicate n 0:=by
 unfold kD cnt;apply pM;intro i;rw[jd,sP]
 by_cases hi:i<n
 ·rw[wX hi,if_pos hi];rfl
 ·rw[if_neg hi,eU (by simp;omega)];rfl
theorem Gd (l:List Int) (i:Int):cnt l i≤l.length:=xA
def IB (w:World) (g:Nat) (l:List Int):Prop:=aJ w g (l.map gQ).toArray 3
theorem FN (n:Nat):madeCells #[.int .i64 0] n=((List.replicate n (0:Int)).map gQ).toArray:=by
 apply Array.ext
 ·simp[size_madeCells]
 intro i h1 h2;simp[madeCells,gQ,Nat.mod_one]
theorem IB.cell {g:Nat} (h:IB w g l) {v:Int} (hv:l[k]?=some v):w.cell? ⟨g,k,none⟩=some (.int .i64 v):=by
 have:=aJ.cell h k;rw[this];simp[hv,gQ]
theorem IB.set {v:Int} (hk:k<l.length):dE (l.map gQ).toArray k [.int .i64 v]=((l.set k v).map gQ).toArray:=by
 show ((l.map gQ).toArray).setIfInBounds k (.int .i64 v)=_;rw[xn];simp[gQ]
theorem yn {r:List Int} (h:∀x∈l,x=0):firstE (l++r)=firstE r:=by
 induction l with
 | nil=>rfl
 | cons a l ih=>
  have h0:=h a jh;rw[Hq];rw[firstE,h0];simp only[if_true,ne_eq,not_true_eq_false,if_false];exact ih fun x hx=>h x (iM _ hx)
theorem Oh {x:Int} {r:List Int} (h:x≠0):firstE (x::r)=x:=by
 rw[firstE];simp[h]
theorem MP {s:Sp} (hs:m.sp[p]?=some s) (hn:(aM s.tb)[j]?=some n) (h1:∀t∈m.sp.take p,∀i∈aM t.tb,bV m t i=0) (h2:∀i∈(aM s.tb).take j,bV m s i=0) (hne:bV m s n≠0):mh m=bV m s n:=by
 unfold mh;have e1:m.sp=m.sp.take p++s::m.sp.drop (p+1):=by rw[←drop_at hs,qp]
 have e2:aM s.tb=(aM s.tb).take j++n::(aM s.tb).drop (j+1):=by rw[←drop_at hn,qp]
 rw[e1,gW,yn (fun x hx => ?_),pO,e2,jJ,nM,yn (fun x hx => ?_),bH,Hq,Oh hne]
 ·obtain⟨i,hi,rfl⟩:=fF.1 hx;exact h2 i hi
 obtain⟨t,ht,hx⟩:=jq.1 hx;obtain⟨i,hi,rfl⟩:=fF.1 hx;exact h1 t ht i hi
theorem JF (h:∀t∈m.sp,∀i∈aM t.tb,bV m t i=0):mh m=0:=by
 unfold mh;rw[←oK (m.sp.flatMap _),yn (fun x hx => ?_)]
 ·rfl
 obtain⟨t,ht,hx⟩:=jq.1 hx;obtain⟨i,hi,rfl⟩:=fF.1 hx;exact h t ht i hi
theorem Sm {s:Sp} (h:bV m s n=0):((dB s.tb n).k=2→(dB s.tb n).n<m.sl.length)∧((dB s.tb n).k≠2→(dB s.tb n).n<m.m.fs.length):=by
 unfold bV at h;split at h
 ·cases h
 simp only at h;split at h
 ·rename_i h2;split at h
  ·cases h
  rename_i h3;exact⟨fun _=>by omega,fun h'=>absurd h2 h'⟩
 rename_i h2;split at h
 ·cases h
 ·exact⟨fun h'=>absurd h' h2,fun _=>by omega⟩
def lT (m:Ma) (p:Nat) (l:List Int):List Int:=m.ca.map Cc.k++(m.sp.take p).flatMap (fun s=>nN s.tb (aM s.tb))++l
def jY (m:Ma) (p:Nat) (l:List Int):List Int:=(m.sp.take p).flatMap (fun s=>swapT s.tb (aM s.tb))++l
theorem Po (t:Tb) (l:List Int) (n:Int):nN t (l++[n])=nN t l++(if (dB t n).k=1 then [(dB t n).n] else []):=by
 unfold nN;rw[uX,jJ];congr 1
 by_cases h:(dB t n).k=1
 ·simp[h]
 ·simp[h]
theorem Oo (t:Tb) (l:List Int) (n:Int):swapT t (l++[n])=swapT t l++(if (dB t n).k=1 then [] else [(dB t n).n]):=by
 unfold swapT;rw[uX,jJ];congr 1
 by_cases h:(dB t n).k=1
 ·simp[h]
 ·simp[h]
theorem Me {s:Sp} (hs:m.sp[p]?=some s):lT m p (nN s.tb (aM s.tb))=lT m (p+1) []:=by
 unfold lT;rw[take_at hs,gW,oK,nM];simp
theorem II {s:Sp} (hs:m.sp[p]?=some s):jY m p (swapT s.tb (aM s.tb))=jY m (p+1) []:=by
 unfold jY;rw[take_at hs,gW,oK];simp
theorem Qr (m:Ma):lT m m.sp.length []=rM m:=by unfold lT rM;rw[xe,oK]
theorem MO (m:Ma):jY m m.sp.length []=oV m:=by unfold jY oV;rw[xe,oK]
theorem LZ (m:Ma) (p:Nat) (l:List Int) (k:Int):lT m p (l++[k])=lT m p l++[k]:=by unfold lT;rw[nM,nM,nM]
theorem Jk (m:Ma) (p:Nat) (l:List Int) (k:Int):jY m p (l++[k])=jY m p l++[k]:=by unfold jY;rw[nM]
theorem Au (t:Tb) (l:List Int):(nN t l).length≤l.length:=by unfold nN;rw[gK];exact xM _ _
theorem EU (t:Tb) (l:List Int):(swapT t l).length≤l.length:=by unfold swapT;rw[gK];exact xM _ _
theorem flat_len {α:Type} (g:α→List Int) (c:Nat) (h:∀x,(g x).length≤c):∀l:List α,(l.flatMap g).length≤c*l.length
 | []=>by simp
 | x::l=>by have h1:=flat_len g c h l;have h2:=h x;rw[pO,jb,mR,Nat.mul_succ];omega
theorem uY (t:Tb):(aM t).length≤64:=qW t 64
theorem Qm (m:Ma) (p:Nat) (l:List Int):(lT m p l).length≤m.ca.length+64*m.sp.length+l.length:=by
 unfold lT;have h1:=flat_len (fun s:Sp=>nN s.tb (aM s.tb)) 64 (fun s=>aY (Au _ _) (uY _)) (m.sp.take p);have h2:(m.sp.take p).length≤m.sp.length:=by rw[fG];omega
 simp only[jb,gK];omega
theorem PN (h:uu m) (p:Nat) (l:List Int) (K:Int):cnt (lT m p l) K≤1+64*m.sp.length+l.length:=by
 unfold lT;rw[zI,zI];have h1:=flat_len (fun s:Sp=>nN s.tb (aM s.tb)) 64 (fun s=>aY (Au _ _) (uY _)) (m.sp.take p);have h2:(m.sp.take p).length≤m.sp.length:=by rw[fG];omega
 have h3:cnt (m.ca.map Cc.k) K=tO m K:=by unfold cnt tO;rw[xH];rfl
 have h4:=QV h K;have h5:=Gd ((m.sp.take p).flatMap fun s=>nN s.tb (aM s.tb)) K;have h6:=Gd l K;omega
theorem Ll (m:Ma) (p:Nat) (l:List Int):(jY m p l).length≤64*m.sp.length+l.length:=by
 unfold jY;have h1:=flat_len (fun s:Sp=>swapT s.tb (aM s.tb)) 64 (fun s=>aY (EU _ _) (uY _)) (m.sp.take p);have h2:(m.sp.take p).length≤m.sp.length:=by rw[fG];omega
 simp only[jb];omega
theorem Nt (w:World) (c1 c2:Array Value) (T1 T2:TypeId):Below w.heap.size w ((w.alloc (.cells c1 T1)).alloc (.cells c2 T2)).drew∧aJ ((w.alloc (.cells c1 T1)).alloc (.cells c2 T2)).drew w.heap.size c1 T1∧aJ ((w.alloc (.cells c1 T1)).alloc (.cells c2 T2)).drew (w.heap.size+1) c2 T2:=by
 have e:(w.alloc (.cells c1 T1)).heap.size=w.heap.size+1:=zx _;have h1:Below w.heap.size w ((w.alloc (.cells c1 T1)).alloc (.cells c2 T2)):=((Below.refl _ _).alloc (az _) _).alloc (by omega) _;have h2:aJ ((w.alloc (.cells c1 T1)).alloc (.cells c2 T2)) w.heap.size c1 T1:=(aJ.new w c1 T1).ext ((Below.refl _ _).alloc (az _) _);have h3:aJ ((w.alloc (.cells c1 T1)).alloc (.cells c2 T2)) (w.heap.size+1) c2 T2:=by rw[←e];exact aJ.new _ _ _
 exact⟨⟨h1.os,h1.tape,h1.output,h1.size,h1.block⟩,h2,h3⟩
theorem int_one:(Tryz.prog.info? 3).map (·.size)=some 1:=by kernel_rfl
theorem int_inf:(Tryz.prog.info? 3).map (fun i=>(i.zero,i.size,i.bytes))=some (some (.int .i64 0),1,8):=by kernel_rfl
theorem DW {y:Operand} {n:Nat} {k:IntKind} (ho:o.op = .indexAddr t x y) (hx:ρ x = .slice (some ⟨b,0,none⟩) n c) (hy:ρ y = .int k (i:Int)) (hi:i<n)
 (hu:P.underlying t=some (.slice e)) (hs:(P.info? e).map (·.size)=some 1):(execOp ρ o).run P w = .ok (.value (.pointer (some ⟨b,i,none⟩))) w:=by
 have:=eO (w:=w) ho hx hy hi hu hs;rw[this];simp
def ER (m:Ma) (i:Nat):Bool:=decide ((gL m i).r=cnt (rM m) i)&&(decide ((gL m i).f<0)||m.ca.any fun c=>decide (c.k=i))
theorem Jf (m:Ma):countB m=((List.range m.m.fs.length).all (ER m)&&decide (m.sl=kD m.sl.length (oV m))):=rfl
theorem Ki (h:countB m=true) (k:Nat) (hk:k<m.m.fs.length):ER m k=true:=by
 rw[Jf,dA,dh] at h;exact h.1 k (bX.2 hk)
theorem oP (H:MH) (w:World) (h:EM w H) :
  Calls Tryz.prog 32 #[.agg (bP H)] w fun r w'=>r = .returned (.int .i64 (jl H.ma))∧Below w.heap.size w w':=by
 have gS:H.m.fs.length*8≤281474976710656∧H.sl.length*8≤281474976710656∨¬il H.ma=0:=by
  by_cases e:il H.ma=0
  ·have hp:=(wm.1 e).1;have h1:=((dN _).1 hp.fr).1;have h2:=kM hp.sl;have qh : H.m.fs.length≤40:=h1;have qg : H.sl.length≤60:=h2;exact .inl ⟨by omega,by omega⟩
  ·exact .inr e
 go_enter func32,ntmps32;go_upto_region 1 with (fail);refine je (fun W=>Code.wp _ _ _ _ W) fun w1 kh bx1 gL => ?_;have h1:=h.below kh;have bx:aJ w1 w.heap.size (bP H) 44:=bx1;clear bx1 gL
 go_wp2_with fail
 refine (Qa H w.heap.size _ bx h1).mono ?_;rintro r w2 ⟨rfl,kW⟩;have h5:=ah kh kW;have bx2:=bx.ext kW;clear bx h1 kh kW
 by_cases e1:il H.ma=0
 rotate_left
 ·have hq:Hid (jl H.ma=il H.ma):=ae (by unfold jl;rw[if_pos e1]);generalize il H.ma=E at *
  go_wp2;go_ret;rw[hq.out];exact⟨rfl,h5⟩
 rw[e1]
 go_wp2_with fail
 refine (Md H w.heap.size _ bx2 (h.below h5)).mono ?_;rintro r w3 ⟨rfl,kV⟩;have hR:=ah h5 kV;have bx3:=bx2.ext kV;clear bx2 h5 kV
 by_cases e2:ig H.ma=0
 rotate_left
 ·have hq:Hid (jl H.ma=ig H.ma):=ae (by unfold jl;rw[if_neg (by rw[e1];simp),if_pos e2]);generalize ig H.ma=E at *
  go_wp2;go_ret;rw[hq.out];exact⟨rfl,hR⟩
 rw[e2];have kj:=(wm.1 e1).1;have n1:H.m.fs.length≤40:=((dN _).1 kj.fr).1;have n2:H.sl.length≤60:=kM kj.sl;have n3:H.sp.length≤4:=by have:=kj.spl;rw[pI] at this;exact this
 have kA:=ae kj;have kx:=ae (zt.1 e2);have kG:Hid (jl H.ma=if mh H.ma≠0 then mh H.ma else if countB H.ma=true then 0 else 7):=ae (by unfold jl;rw[if_neg (by rw[e1];simp),if_neg (by rw[e2];simp)]);clear e1 e2 kj gS;go_upto_region 7 with (fail);have l:=bx3.cell;unfold bP at l;have kw:=fun ob=>(bx3.ext ((Below.refl _ _).alloc (az _) ob)).cell;unfold bP at kw;have gc:=run_make_row' (P:=Tryz.prog) 32 3 (.int .i64 0) 8 underlying32 int_inf rfl .i64 .i64 H.m.fs.length (by omega) (by omega);have gb:=run_make_row' (P:=Tryz.prog) 32 3 (.int .i64 0) 8 underlying32 int_inf rfl .i64 .i64 H.sl.length (by omega) (by omega)
 go_cut [5,6] (fun s5 s6 wx => ∃gh gs,s5 = .slice (some ⟨gh,0,none⟩) H.m.fs.length H.m.fs.length∧s6 = .slice (some ⟨gs,0,none⟩) H.sl.length H.sl.length∧gh≠gs∧w3.heap.size≤gh∧w3.heap.size≤gs∧Below w3.heap.size w3 wx∧aJ wx gh (madeCells #[.int .i64 0] H.m.fs.length) 3∧aJ wx gs (madeCells #[.int .i64 0] H.sl.length) 3)
 case first=>
  go_region
  all_goals (go_wp2_with fail;go_meet)
  ·obtain⟨z1,z2,z3⟩:=Nt w3 (madeCells #[.int .i64 0] H.m.fs.length) (madeCells #[.int .i64 0] H.sl.length) 3 3;exact⟨_,_,rfl,rfl,by omega,by omega,by omega,z1,z2,z3⟩
  obtain⟨z1,z2,z3⟩:=Nt w3 (madeCells #[.int .i64 0] H.sl.length) (madeCells #[.int .i64 0] H.m.fs.length) 3 3;exact⟨_,_,rfl,rfl,by omega,by omega,by omega,z1,z3,z2⟩
 case rest=>
  obtain⟨gh,gs,rfl,rfl,kL,gm,gj,kU,d,b⟩:=hcut;have ky:=ah hR kU;have bx4:=bx3.ext kU;have k1:w.heap.size≤gh:=aY hR.size gm;have gH:w.heap.size≤gs:=aY hR.size gj;have gt:w.heap.size≠gh:=by have:=bx3.lt;omega
  have gX:w.heap.size≠gs:=by have:=bx3.lt;omega
  have kE:IB wc gh (kD H.m.fs.length ((H.ca.take 0).map Cc.k)):=by rw[List.take_zero,bL,IE];unfold IB;rw[←FN];exact d
  have kB:IB wc gs (kD H.sl.length []):=by rw[IE];unfold IB;rw[←FN];exact b
  clear l kw gc gb d b kU bx3 hR gm gj;have l:=bx4.cell;unfold bP at l;go_upto_region 9 with (fail);clear l;have qf:=h.ca.le;have gW:=h.ca.mx;unfold maxLen at gW
  go_loopw [37] (fun i wr => ∃(k:Nat),k≤H.ca.length∧i = .int .i64 k∧Below w.heap.size w wr∧aJ wr w.heap.size (bP H) 44∧IB wr gh (kD H.m.fs.length ((H.ca.take k).map Cc.k))∧IB wr gs (kD H.sl.length [])) (fun i _=>H.ca.length-(intOf i).toNat)
  case atStart=>exact⟨0,bK _,rfl,ky,bx4,kE,kB⟩
  case round=>
   clear ky bx4 kE kB;obtain⟨k,hk,rfl,o,bx,d,b⟩:=hrel
   by_cases hkl:k<H.ca.length
   ·obtain⟨bc,oc,g0,hf⟩:=nU jQ (by decide) (h.below o).ca.rd k hkl;have kO:(k:Int)<(H.ca.length:Int):=by omega
    have g8:0≤H.ca[k].k∧H.ca[k].k<H.m.fs.length:=kx.out.lt _ (eX hkl);have h7:Hid ((H.ca.take (k+1)).map Cc.k=(H.ca.take k).map Cc.k++[H.ca[k].k]):=ae (by rw[take_at (aN hkl),jJ];rfl);have kN:((H.ca.take k).map Cc.k).length≤k:=by rw[gK,fG];omega
    generalize H.ca[k]=c at *
    obtain⟨K,gr⟩:∃K:Nat,c.k=K:=⟨c.k.toNat,by omega⟩;have hy:K<H.m.fs.length:=by omega
    rw[gr] at h7;rw[g0];generalize (H.ca.take k).map Cc.k=L at *
    go_wp2_with (first | (refine aA _ _ rfl bc (oc+k*3) rfl rfl _ hf _ underlying124 rfl cached_size ?_) | (refine aW rfl _ _ _ rfl (AJ c) rfl rfl rfl cached_size (HZ c) ?_))
    intro w5 s cx;have hI:=ah o s;have bx5:=bx.ext s;have hM:IB w5 gh (kD H.m.fs.length L):=d.ext s;have hW:IB w5 gs (kD H.sl.length []):=b.ext s;clear o bx d b hf s;have kS:=cx.cell;unfold AJ at kS;rw[gr] at kS;have hZ:=hM.cell (nK H.m.fs.length L K hy);have kv:=Gd L K;have ka:IntKind.i64.wrap ((cnt L K:Int)+1)=(cnt L K:Int)+1:=dS _ (by omega);have gw:(K:Int)<(H.m.fs.length:Int):=by omega
    go_wp2_with (refine aX rfl _ _ _ rfl gh K _ [.int .i64 ((cnt L K:Int)+1)] rfl rfl rfl _ _ hM (by simp[mi];omega) int_one (fun u hu=>by cases bF.1 hu;rfl) ?_)
    intro w6 hh hl;rw[IB.set (by rw[mi];exact hy),Ed _ _ _ hy,←h7.out] at hh;have q:=hI.grown hl hI.size (fun k hk=>by cases hk;exact k1);have bx6:=bx5.grown hl (fun e=>gt (aT e).symm);have hc:IB w6 gs (kD H.sl.length []):=aJ.grown hW hl (fun e=>kL (aT e));clear hI bx5 hW hM kS hZ cx hl ka;go_wp2;go_roundw
    case rel=>exact⟨k+1,by omega,by go_num,q,bx6,hh,hc⟩
    case measure=>simp[intOf];omega
   have kO:¬(k:Int)<(H.ca.length:Int):=by omega
   rw[mK (by omega)] at d;have kF:IB wr gh (kD H.m.fs.length (lT H.ma 0 [])):=by
    have e:lT H.ma 0 []=H.ca.map Cc.k:=by show H.ca.map Cc.k++[]++[]=_;rw[oK,oK]
    rw[e];exact d
   have kC:IB wr gs (kD H.sl.length (jY H.ma 0 [])):=b;clear d b;have l:=bx.cell;unfold bP at l;go_upto_region 14 with (fail);clear l
   go_loopw [52] (fun i wr => ∃(p:Nat),p≤H.sp.length∧i = .int .i64 p∧Below w.heap.size w wr∧aJ wr w.heap.size (bP H) 44∧IB wr gh (kD H.m.fs.length (lT H.ma p []))∧IB wr gs (kD H.sl.length (jY H.ma p []))∧Hid (∀t∈H.ma.sp.take p,∀i∈aM t.tb,bV H.ma t i=0)) (fun i _=>H.sp.length-(intOf i).toNat)
   case atStart=>exact⟨0,bK _,rfl,o,bx,kF,kC,ae fun t ht=>by simp at ht⟩
   case round=>
    clear o bx kF kC;obtain⟨p,hp,rfl,o,bx,d,b,hz⟩:=hrel
    by_cases hpl:p<H.sp.length
    ·obtain⟨bs,os,P,kX,hP,hf⟩:=vN (h.below o).sp.rd p hpl;have ha:=zm (h.below o) hP;have gP:(p:Int)<(H.sp.length:Int):=by omega
     have kk:H.ma.sp[p]?=some P.sp:=by show (H.sp.map PS.sp)[p]?=_;rw[jd,hP];rfl
     have gu:(dI P.ar).1=0:=kA.out.ar P.sp (dn kk);have kn:dR P.tb=0:=kA.out.tb P.sp (dn kk);have hG:=ae kk;have gv:=ae hP;have l:=bx.cell;unfold bP at l;rw[kX] at l;clear kk hP
     go_wp2_with (refine aA _ _ rfl bs (os+p*10+2) rfl rfl _ (nu hf 2 8) _ underlying112 tab_agg tab_size ?_)
     refine (ru P.tb (rT P.ts) _ ha.tb).mono ?_;rintro r w5 ⟨v5,rfl,kJ,s⟩;obtain⟨a5,c5,rfl,g5,g4,_,gN⟩:=kJ.rd;have gd:gh<wr.heap.size∧gs<wr.heap.size:=⟨aJ.lt d,aJ.lt b⟩;have hI:=ah o s;have bx5:=bx.ext s;have hM:IB w5 gh (kD H.m.fs.length (lT H.ma p (nN P.tb ((aM P.tb).take 0)))):=d.ext s;have hW:IB w5 gs (kD H.sl.length (jY H.ma p (swapT P.tb ((aM P.tb).take 0)))):=b.ext s;have kr:=hf.below s;have h9:=ha.below s;have k0:=ae gd;clear l o bx d b hf ha s gN;have k4:=ae (IL P.tb);have gO:=uY P.tb;go_upto_region 18 with (fail)
     go_loopw [65] (fun i wr' => ∃(j:Nat),j≤(aM P.tb).length∧i = .int .i64 j∧Below w.heap.size w wr'∧aJ wr' w.heap.size (bP H) 44∧IB wr' gh (kD H.m.fs.length (lT H.ma p (nN P.tb ((aM P.tb).take j))))∧IB wr' gs (kD H.sl.length (jY H.ma p (swapT P.tb ((aM P.tb).take j))))∧Own wr' wr.heap.size 3 1 (.slice a5 (aM P.tb).length c5) (aM P.tb).length ((aM P.tb).map gQ)∧dV wr' (some ⟨bs,os+p*10,none⟩) (vR P)∧P.good wr'∧Hid (∀i∈(aM P.tb).take j,bV H.ma P.sp i=0)) (fun i _=>(aM P.tb).length-(intOf i).toNat)
     case atStart=>exact⟨0,bK _,rfl,hI,bx5,hM,hW,kJ,kr,h9,ae fun i hi=>by simp at hi⟩
     case round=>
      clear hI bx5 hM hW kJ kr h9;obtain⟨j,hj,rfl,o,bx,d,b,ho,hf,ha,h6⟩:=hrel;obtain⟨gk,g9⟩:=k0.out
      by_cases hjl:j<(aM P.tb).length
      ·have gU:(j:Int)<((aM P.tb).length:Int):=by omega
       obtain⟨_,_,e9,_,_,_,k3⟩:=ho.rd;cases e9;have kK:(aM P.tb)[j]?=some (aM P.tb)[j]:=aN hjl;have gR:=k4.out _ (eX hjl);have k9:(dB P.tb (aM P.tb)[j]).k≠0:=(jX.1 (eX hjl)).2;obtain⟨bp,op,k5,gV⟩:=lK k3 j hjl;generalize hN:(aM P.tb)[j]=n at *
       have h7:Hid ((aM P.tb).take (j+1)=(aM P.tb).take j++[n]):=ae (take_at kK);have ga:=ae kK;have ks:=ae k5;have ku:=(cz _).1 (wB kn n);rw[k5];clear kK hN k3
       go_wp2_with fail
       refine (Mf H P n w.heap.size bs (os+p*10) _ bx (h.below o) hf ha gu kn gR).mono ?_;rintro r w6 ⟨rfl,hh⟩;have q:=ah o hh;have bx6:=bx.ext hh;have z:=aJ.ext d hh;have hc:=aJ.ext b hh;have k8:=ho.below hh;have kc:=hf.below hh;have hl:=ha.below hh;clear o bx d b ho hf ha hh gV
       by_cases hE:bV H.ma P.sp n=0
       rotate_left
       ·have hq:Hid (jl H.ma=bV H.ma P.sp n):=ae (by have:=MP hG.out ga.out hz.out h6.out hE;rw[kG.out,this,if_pos hE]);generalize bV H.ma P.sp n=E at *
        go_wp2;go_ret;rw[hq.out];exact⟨rfl,q⟩
       have gf:=Sm hE;have hO:Hid (∀i∈(aM P.tb).take (j+1),bV H.ma P.sp i=0):=ae fun i hi=>by
        rw[h7.out] at hi;rcases iN.1 hi with hi|hi
        ·exact h6.out i hi
        ·rw[bF.1 hi];exact hE
       rw[hE];clear h6 hE
       go_wp2_with (refine aA _ _ rfl bs (os+p*10+2) rfl rfl _ (nu kc 2 8) _ underlying112 tab_agg tab_size ?_)
       refine (zq P.tb (rT P.ts) n _ hl.tb).mono ?_;rintro r w7 ⟨rfl,hU⟩;have h4:((dB P.tb n).k=2→(dB P.tb n).n<H.sl.length)∧((dB P.tb n).k≠2→(dB P.tb n).n<H.m.fs.length):=gf;have k6:nN P.tb ((aM P.tb).take (j+1))=nN P.tb ((aM P.tb).take j)++(if (dB P.tb n).k=1 then [(dB P.tb n).n] else []):=by rw[h7.out,Po]
       have k2:swapT P.tb ((aM P.tb).take (j+1))=swapT P.tb ((aM P.tb).take j)++(if (dB P.tb n).k=1 then [] else [(dB P.tb n).n]):=by rw[h7.out,Oo]
       have qe:=Qm H.ma p (nN P.tb ((aM P.tb).take j));have g7:=Au P.tb ((aM P.tb).take j);have qd:=Ll H.ma p (swapT P.tb ((aM P.tb).take j));have g6:=EU P.tb ((aM P.tb).take j);have qc:((aM P.tb).take j).length≤64:=by rw[fG];omega
       have qb:H.ma.ca.length=H.ca.length:=rfl;have qa:H.ma.sp.length=H.sp.length:=pI H;generalize dB P.tb n=e at *
       generalize nN P.tb ((aM P.tb).take j)=L1 at *
       generalize swapT P.tb ((aM P.tb).take j)=L2 at *
       have kt:=ae k6;have ko:=ae k2;clear gf k6 k2;have hg:=ah q hU;have bx7:=bx6.ext hU;have hD:=aJ.ext z hU;have hB:=aJ.ext hc hU;have k7:=k8.below hU;have kq:=kc.below hU;have gp:=hl.below hU;clear q bx6 z hc k8 kc hl hU
       go_wp2_with (refine aW rfl _ _ _ rfl (nk e) rfl rfl rfl entry_size (by simp[nk,Value.oneCell']) ?_)
       intro w8 hT ex;have hH:=ah hg hT;have bx8:=bx7.ext hT;have hL:IB w8 gh _:=aJ.ext hD hT;have hJ:IB w8 gs _:=aJ.ext hB hT;have h8:=k7.below hT;have kp:=kq.below hT;have gn:=gp.below hT;clear hg bx7 hD hB k7 kq gp hT;have hZ:=ex.cell;unfold nk at hZ
       by_cases hk1:e.k=1
       ·obtain⟨K,hK⟩:∃K:Nat,e.n=K:=⟨e.n.toNat,by omega⟩;have hy:K<H.m.fs.length:=by have:=h4.2 (by omega);omega
        have hr:=kt.out;have hm:=ko.out;rw[if_pos hk1,hK] at hr;rw[if_pos hk1,oK] at hm;rw[hk1,hK] at hZ;have kQ:=hL.cell (nK H.m.fs.length (lT H.ma p L1) K hy);have kv:=PN kx.out p L1 K;have ka:IntKind.i64.wrap ((cnt (lT H.ma p L1) K:Int)+1)=(cnt (lT H.ma p L1) K:Int)+1:=dS _ (by omega);have gw:(K:Int)<(H.m.fs.length:Int):=by omega
        have kd:=ae hr;have kb:=ae hm;clear hr hm h4 hk1 k9 ku hK
        go_wp2_with (refine aX rfl _ _ _ rfl gh K _ [.int .i64 ((cnt (lT H.ma p L1) K:Int)+1)] rfl rfl rfl _ _ hL (by simp[mi];omega) int_one (fun u hu=>by cases bF.1 hu;rfl) ?_)
        intro w9 kg hs;rw[IB.set (by rw[mi];exact hy),Ed _ _ _ hy,←LZ,←kd.out] at kg;rw[←kb.out] at hJ;have hQ:=hH.grown hs hH.size (fun k hk=>by cases hk;exact k1);have bx9:=bx8.grown hs (fun e=>gt (aT e).symm);have gz:IB w9 gs _:=aJ.grown hJ hs (fun e=>kL (aT e));have hY:EM w9 H:=h.below hQ;obtain⟨bs',os',P',hV,h0,hX⟩:=vN hY.sp.rd p hpl;have kY:P' = P:=by have h2:H.ma.sp[p]?=some P.sp:=hG.out;rw[gv.out] at h0;exact (aT h0).symm
        subst kY;rw[kX] at hV;cases hV;have ke:=hY.ps P' (dn h0);have kI:=h8.grown hs (fun g hv e=>by have:=h8.ge g hv;have e2:=aT e;omega);clear hH bx8 hJ hL hZ ex hs ka kQ h8 kp gn hY;go_wp2;go_roundw
        case rel=>exact⟨j+1,by omega,by go_num,hQ,bx9,kg,gz,by rw[←ks.out];exact kI,hX,ke,hO⟩
        case measure=>simp[intOf];omega
       obtain⟨K,hK⟩:∃K:Nat,e.n=K:=⟨e.n.toNat,by omega⟩;have kP:e.k=2:=by omega
       have hy:K<H.sl.length:=by have:=h4.1 kP;omega
       have hr:=kt.out;have hm:=ko.out;rw[if_neg hk1,oK] at hr;rw[if_neg hk1,hK] at hm;rw[kP,hK] at hZ;have kQ:=hJ.cell (nK H.sl.length (jY H.ma p L2) K hy);have kv:=Gd (jY H.ma p L2) K;have ka:IntKind.i64.wrap ((cnt (jY H.ma p L2) K:Int)+1)=(cnt (jY H.ma p L2) K:Int)+1:=dS _ (by omega);have gw:(K:Int)<(H.sl.length:Int):=by omega
       have kd:=ae hr;have kb:=ae hm;clear hr hm h4 hk1 kP k9 ku hK
       go_wp2_with (refine aX rfl _ _ _ rfl gs K _ [.int .i64 ((cnt (jY H.ma p L2) K:Int)+1)] rfl rfl rfl _ _ hJ (by simp[mi];omega) int_one (fun u hu=>by cases bF.1 hu;rfl) ?_)
       intro w9 kg hs;rw[IB.set (by rw[mi];exact hy),Ed _ _ _ hy,←Jk,←kb.out] at kg;rw[←kd.out] at hL;have hQ:=hH.grown hs hH.size (fun k hk=>by cases hk;exact gH);have bx9:=bx8.grown hs (fun e=>gX (aT e).symm);have gB:IB w9 gh _:=aJ.grown hL hs (fun e=>kL (aT e).symm);have hY:EM w9 H:=h.below hQ;obtain⟨bs',os',P',hV,h0,hX⟩:=vN hY.sp.rd p hpl;have kY:P' = P:=by have h2:H.ma.sp[p]?=some P.sp:=hG.out;rw[gv.out] at h0;exact (aT h0).symm
       subst kY;rw[kX] at hV;cases hV;have ke:=hY.ps P' (dn h0);have kI:=h8.grown hs (fun g hv e=>by have:=h8.ge g hv;have e2:=aT e;omega);clear hH bx8 hJ hL hZ ex hs ka kQ h8 kp gn hY;go_wp2;go_roundw
       case rel=>exact⟨j+1,by omega,by go_num,hQ,bx9,gB,kg,by rw[←ks.out];exact kI,hX,ke,hO⟩
       case measure=>simp[intOf];omega
      have gU:¬(j:Int)<((aM P.tb).length:Int):=by omega
      rw[mK (by omega)] at d b h6;have gC:IB wr gh (kD H.m.fs.length (lT H.ma (p+1) [])):=by rw[←Me hG.out];exact d
      have gA:IB wr gs (kD H.sl.length (jY H.ma (p+1) [])):=by rw[←II hG.out];exact b
      have hO:Hid (∀t∈H.ma.sp.take (p+1),∀i∈aM t.tb,bV H.ma t i=0):=ae fun t ht i hi=>by
       rw[take_at hG.out] at ht;rcases iN.1 ht with ht|ht
       ·exact hz.out t ht i hi
       rw[bF.1 ht] at hi ⊢;exact h6.out i hi
      clear d b ho hf ha hz h6;go_wp2;go_roundw
      case rel=>
       refine⟨_,_,_,_,_,_,.int .i64 ((p:Int)+1),⟨p+1,by omega,?_,gC,gA,hO⟩,rfl,rfl,rfl,rfl,rfl,rfl,rfl⟩;go_num
      case measure=>simp[intOf];omega
    have gP:¬(p:Int)<(H.sp.length:Int):=by omega
    have kl:p=H.ma.sp.length:=by rw[pI];omega
    rw[kl,Qr] at d;rw[kl,MO] at b;rw[kl,xe] at hz;have h3:Hid (jl H.ma=if countB H.ma=true then 0 else 7):=ae (by rw[kG.out,if_neg (by rw[JF hz.out];simp)]);clear hz kG kl;have l:=bx.cell;unfold bP at l;go_upto_region 30 with (fail);clear l
    go_loopw [104] (fun i wr => ∃(k:Nat),k≤H.m.fs.length∧i = .int .i64 k∧Below w.heap.size w wr∧aJ wr w.heap.size (bP H) 44∧IB wr gh (kD H.m.fs.length (rM H.ma))∧IB wr gs (kD H.sl.length (oV H.ma))∧Hid (∀i,i<k→ER H.ma i=true)) (fun i _=>H.m.fs.length-(intOf i).toNat)
    case atStart=>exact⟨0,bK _,rfl,o,bx,d,b,ae fun i hi=>absurd hi (gT _)⟩
    case round=>
     clear o bx d b;obtain⟨k,hk,rfl,o,bx,d,b,hO⟩:=hrel
     by_cases hkl:k<H.m.fs.length
     ·obtain⟨bg,og,gZ,hf⟩:=nU iR (by decide) (h.below o).fr.rd k hkl;have kO:(k:Int)<(H.m.fs.length:Int):=by omega
      have kZ:H.m.fs[k]=aD H.ma k:=by have:=tF (m:=H.ma) (f:=k) hkl;have h2:H.m.fs[k]?=some (aD H.ma k):=this;rw[aN hkl] at h2;exact aT h2
      rw[kZ] at hf;have km:Hid (ER H.ma k=(decide ((aD H.ma k).r=cnt (rM H.ma) k)&&(decide ((aD H.ma k).f<0)||H.ca.any (isK (k:Int))))):=ae rfl;generalize aD H.ma k=x at *
      rw[gZ];clear kZ;obtain⟨gi,gl⟩:∃g,g=wr.heap.size:=⟨_,rfl⟩;go_upto_region 31 with (fail);have gk:gh<wr.heap.size∧gs<wr.heap.size:=⟨aJ.lt d,aJ.lt b⟩;have gY:=bx.lt;have kT:Below wr.heap.size wr ((wr.alloc (.cells #[.int .i64 0] 3)).alloc (.cells #[.int .u8 0,.int .u8 0,.int .u8 0,.int .u8 0,.int .u8 0,.int .u8 0,.int .u8 0,.int .u8 0,.int .i64 0,.bool false,.bool false,.int .i64 0,.int .i64 0] 132)):=((Below.refl _ _).alloc (az _) _).alloc (by rw[show (wr.alloc (.cells #[.int .i64 0] 3)).heap.size=wr.heap.size+1 from zx _];omega) _;have e1:(wr.alloc (.cells #[.int .i64 0] 3)).heap.size=wr.heap.size+1:=zx _;have gE:aJ ((wr.alloc (.cells #[.int .i64 0] 3)).alloc (.cells #[.int .u8 0,.int .u8 0,.int .u8 0,.int .u8 0,.int .u8 0,.int .u8 0,.int .u8 0,.int .u8 0,.int .i64 0,.bool false,.bool false,.int .i64 0,.int .i64 0] 132)) wr.heap.size #[.int .i64 0] 3:=(aJ.new wr _ _).ext ((Below.refl _ _).alloc (az _) _);have gD:aJ ((wr.alloc (.cells #[.int .i64 0] 3)).alloc (.cells #[.int .u8 0,.int .u8 0,.int .u8 0,.int .u8 0,.int .u8 0,.int .u8 0,.int .u8 0,.int .u8 0,.int .i64 0,.bool false,.bool false,.int .i64 0,.int .i64 0] 132)) (wr.heap.size+1) #[.int .u8 0,.int .u8 0,.int .u8 0,.int .u8 0,.int .u8 0,.int .u8 0,.int .u8 0,.int .u8 0,.int .i64 0,.bool false,.bool false,.int .i64 0,.int .i64 0] 132:=by rw[←e1];exact aJ.new _ _ _
      go_wp2_with (first | (refine aA _ _ rfl bg (og+k*13) rfl rfl _ hf _ underlying132 rfl frame_size ?_) | (refine aX rfl _ _ _ rfl wr.heap.size 0 _ [.int .i64 (k:Int)] rfl rfl rfl _ _ gE (by show 0+1≤1;decide) int_one (fun u hu=>by cases bF.1 hu;rfl) ?_))
      intro w5 s h9;have kz : aJ w5 wr.heap.size #[.int .i64 (k:Int)] 3:=s;have gq:=gD.grown h9 (fun e=>by have:=aT e;omega);have kf:=kT.grown h9 kT.size (fun k hk=>by cases hk;exact az _)
      go_wp2_with (refine fI rfl _ _ _ rfl (wr.heap.size+1) 0 (yG x) rfl rfl _ _ gq (by show 0+13≤13;decide) frame_size (uW x) ?_)
      intro w6 hh hl;have fx6:aJ w6 (wr.heap.size+1) (yG x) 132:=by have e2:=eB (#[.int .u8 0,.int .u8 0,.int .u8 0,.int .u8 0,.int .u8 0,.int .u8 0,.int .u8 0,.int .u8 0,.int .i64 0,.bool false,.bool false,.int .i64 0,.int .i64 0]) (yG x) rfl;rw[←e2];exact hh
      have ix6:aJ w6 wr.heap.size #[.int .i64 (k:Int)] 3:=kz.grown hl (fun e=>by have:=aT e;omega);have hS:=kf.grown hl kf.size (fun k hk=>by cases hk;omega);have q:=ah o hS;have bx6:=bx.ext hS;have z:IB w6 gh _:=aJ.ext d hS;have hc:IB w6 gs _:=aJ.ext b hS;obtain⟨gx,gg⟩:∃g,g=wr.heap.size+1:=⟨_,rfl⟩;rw[←gg] at fx6 ⊢;rw[←gl] at ix6 ⊢;clear kT kf hS gE gD s kz gq h9 hl hh hf o bx d b e1 gk gY gg gl;go_upto_region 32 with (fail)
      by_cases c1:x.r=cnt (rM H.ma) k
      ·by_cases c2:0≤x.f
       ·skip;refine aP 19 [_,_,_,_,_,_,_,_,_,_,_,_,_,_,.v (.func (.func 55) #[] #[.pointer (some ⟨gi,0,none⟩)]),.v (.bool (H.ca.any (isK (k:Int)))),_,_,.v (.bool (!(H.ca.any (isK (k:Int)))))] (Gf gx 8 rfl rfl (Gl fx6 rfl rfl rfl rfl rfl (Gk rfl (Gl ix6 (V:=.int .i64 (k:Int)) rfl rfl rfl rfl rfl (Gr (.pointer (some ⟨gh,k,none⟩)) (fun ρ y W hb hF=>(DW rfl (aV rfl hF) (aV rfl hF) hkl underlying32 int_one)) rfl rfl (Gc (.int .i64 (cnt (rM H.ma) k:Int)) (fun W hb=>by simp[IB.cell (aJ.ext z hb) (nK H.m.fs.length (rM H.ma) k hkl)]) rfl rfl rfl rfl (Gb (.bool false) (by simp[go_sem,c1]) rfl rfl rfl rfl rfl (Gk rfl (Gf gx 11 rfl rfl (Gl fx6 rfl rfl rfl rfl rfl (Gb (.bool true) (by simp[go_sem,c2]) rfl rfl rfl rfl rfl (Gk rfl (Gf w.heap.size 9 rfl rfl (Gl bx6 rfl rfl rfl rfl rfl (aj ?_ (aj ?_ (Gr (.bool (!(H.ca.any (isK (k:Int))))) (fun ρ y W hb hF=>BS rfl (aV rfl hF)) rfl rfl (Gk rfl (Gk rfl (aG)))))))))))))))))))) (fun _=>rfl) rfl ?_
        ·intro ρ y W hw hn hb hd;have g3:ρ (.tmp 15) = .pointer (some ⟨gi,0,none⟩):=(hn (.tmp 15) rfl).trans rfl;refine ak (.func (.func 55) #[] #[.pointer (some ⟨gi,0,none⟩)]) (gJ 11 120 true true rfl rfl ((hw 120 11 rfl).trans (hd 11 rfl))) (by simp[execOp,go_sem,g3]) rfl
        ·intro ρ y W hw hn hb hd;have gG:=hw 122 13 rfl;have g2:y 13=_:=hd 13 rfl;have gF:=hw 123 14 rfl;have g1:y 14=_:=hd 14 rfl;have EF:∀f,ρ (.func f) = .func (.func f) #[] #[]:=fun f=>hn (.func f) trivial;refine aL _ _ (gJ 11 120 true true rfl rfl ((hw 120 11 rfl).trans (hd 11 rfl))) (aS rfl (EF _) func54 (by kernel_rfl) (by kernel_rfl) (by simp only[bT,bH,bL,gG,g2,gF,g1,EF];rfl)) ?_;refine (SG H.ca _ _ W ((h.below q).below hb).ca.rd (by omega) gi k (ix6.ext hb)).mono ?_;rintro r w1 ⟨rfl,kh⟩;exact⟨_,rfl,kh,rfl⟩
        intro y W7 a _;have hg:=ah q a;have bx7:=bx6.ext a;have hD:=aJ.ext z a;have hB:=aJ.ext hc a;clear a q bx6 z hc ix6 fx6;cases hA:H.ca.any (isK (k:Int)) with
        | true=>
         have hx:Hid (ER H.ma k=true):=ae (by rw[km.out,decide_eq_true c1,hA];simp);clear c1 c2;have ki:Hid (∀i,i<k+1→ER H.ma i=true):=ae fun i hi=>by
          by_cases e:i=k
          ·rw[e];exact hx.out
          ·exact hO.out i (by omega)
         go_wp2;go_roundw
         case rel=>exact⟨k+1,by omega,by go_num,hg,bx7,hD,hB,ki⟩
         case measure=>simp[intOf];omega
        | false=>
         have hx:Hid (ER H.ma k=false):=ae (by rw[km.out,decide_eq_true c1,hA,decide_eq_false (by omega)];rfl);clear c1 c2;have hq:Hid (jl H.ma=7):=ae (by rw[h3.out,if_neg];intro l;exact absurd (Ki l k hkl) (by rw[hx.out];decide));go_wp2;go_ret;rw[hq.out];exact⟨rfl,hg⟩
       have hx:Hid (ER H.ma k=true):=ae (by rw[km.out,decide_eq_true c1,decide_eq_true (by omega)];rfl);refine aP 19 [_,_,_,_,_,_,_,_,_,_,_,_,_,_,_,_,_,_,.v (.bool false)] (Gf gx 8 rfl rfl (Gl fx6 rfl rfl rfl rfl rfl (Gk rfl (Gl ix6 (V:=.int .i64 (k:Int)) rfl rfl rfl rfl rfl (Gr (.pointer (some ⟨gh,k,none⟩)) (fun ρ y W hb hF=>(DW rfl (aV rfl hF) (aV rfl hF) hkl underlying32 int_one)) rfl rfl (Gc (.int .i64 (cnt (rM H.ma) k:Int)) (fun W hb=>by simp[IB.cell (aJ.ext z hb) (nK H.m.fs.length (rM H.ma) k hkl)]) rfl rfl rfl rfl (Gb (.bool false) (by simp[go_sem,c1]) rfl rfl rfl rfl rfl (Gk rfl (Gf gx 11 rfl rfl (Gl fx6 rfl rfl rfl rfl rfl (Gb (.bool false) (by simp[go_sem,c2]) rfl rfl rfl rfl rfl (Gk rfl (Gk rfl (Gk rfl (Gk rfl (Gk rfl (Gk rfl (Gk rfl (Gk rfl (aG)))))))))))))))))))) (fun _=>rfl) rfl ?_;intro y W7 a _;have hg:=ah q a;have bx7:=bx6.ext a;have hD:=aJ.ext z a;have hB:=aJ.ext hc a;clear a q bx6 z hc ix6 fx6;clear c1 c2;have ki:Hid (∀i,i<k+1→ER H.ma i=true):=ae fun i hi=>by
        by_cases e:i=k
        ·rw[e];exact hx.out
        ·exact hO.out i (by omega)
       go_wp2;go_roundw
       case rel=>exact⟨k+1,by omega,by go_num,hg,bx7,hD,hB,ki⟩
       case measure=>simp[intOf];omega
      have hx:Hid (ER H.ma k=false):=ae (by rw[km.out,decide_eq_false c1];rfl);refine aP 19 [_,_,_,_,_,_,_,_,_,_,_,_,_,_,_,_,_,_,.v (.bool true)] (Gf gx 8 rfl rfl (Gl fx6 rfl rfl rfl rfl rfl (Gk rfl (Gl ix6 (V:=.int .i64 (k:Int)) rfl rfl rfl rfl rfl (Gr (.pointer (some ⟨gh,k,none⟩)) (fun ρ y W hb hF=>(DW rfl (aV rfl hF) (aV rfl hF) hkl underlying32 int_one)) rfl rfl (Gc (.int .i64 (cnt (rM H.ma) k:Int)) (fun W hb=>by simp[IB.cell (aJ.ext z hb) (nK H.m.fs.length (rM H.ma) k hkl)]) rfl rfl rfl rfl (Gb (.bool true) (by simp[go_sem,c1]) rfl rfl rfl rfl rfl (Gk rfl (Gk rfl (Gk rfl (Gk rfl (Gk rfl (Gk rfl (Gk rfl (Gk rfl (Gk rfl (Gk rfl (Gk rfl (Gk rfl (aG)))))))))))))))))))) (fun _=>rfl) rfl ?_;intro y W7 a _;have hg:=ah q a;have bx7:=bx6.ext a;have hD:=aJ.ext z a;have hB:=aJ.ext hc a;clear a q bx6 z hc ix6 fx6;clear c1;have hq:Hid (jl H.ma=7):=ae (by rw[h3.out,if_neg];intro l;exact absurd (Ki l k hkl) (by rw[hx.out];decide));go_wp2;go_ret;rw[hq.out];exact⟨rfl,hg⟩
     have kO:¬(k:Int)<(H.m.fs.length:Int):=by omega
     have gM:=(h.below o).sl;have gy:dV wr (some ⟨gs,0,none⟩) ((kD H.sl.length (oV H.ma)).map gQ):=fun i u hi=>⟨gs,0,rfl,by rw[dM,aJ.cell b];simpa using hi⟩;have l:=bx.cell;unfold bP at l;have kN:=ae (mi H.sl.length (oV H.ma));have hq:Hid (jl H.ma=if H.sl=kD H.sl.length (oV H.ma) then 0 else 7):=ae (by
      rw[h3.out,Jf,dh.2 (fun i hi=>hO.out i (by have:=bX.1 hi;have e:H.ma.m.fs.length=H.m.fs.length:=rfl;omega)),kR];show (if decide (H.sl=kD H.sl.length (oV H.ma))=true then (0:Int) else 7)=_
      by_cases e:H.sl=kD H.sl.length (oV H.ma)
      ·rw[if_pos e,if_pos (decide_eq_true e)]
      ·rw[if_neg e,if_neg (by simp[e])])
     have gI:=n2;generalize hC:kD H.sl.length (oV H.ma)=C at *
     clear hO h3 hC
     go_wp2_with fail
     rw[show (Value.slice (some ⟨gs,0,none⟩) H.sl.length H.sl.length) = .slice (some ⟨gs,0,none⟩) C.length H.sl.length from by rw[kN.out]];refine (JY H.sl C H.asl (some ⟨gs,0,none⟩) H.csl H.sl.length _ gM.rd gy (by omega) (by rw[kN.out];omega)).mono ?_;rintro r w5 ⟨rfl,s⟩
     by_cases e:H.sl=C
     ·rw[show (H.sl==C)=true from by rw[beq_iff_eq];exact e];have kH:Hid (jl H.ma=0):=ae (by rw[hq.out,if_pos e]);clear e l;go_wp2;go_ret;rw[kH.out];exact⟨rfl,ah o s⟩
     rw[show (H.sl==C)=false from by rw[beq_eq_false_iff_ne];exact e];have kH:Hid (jl H.ma=7):=ae (by rw[hq.out,if_neg e]);clear e l;go_wp2;go_ret;rw[kH.out];exact⟨rfl,ah o s⟩
end Go.Proofs.YtpaeabelhnnbiaaGreat
namespace Pw
open Go Go.RowKit
variable {P:Program} {Q:Exit → Act → World → Prop} {a0:Act} {i id:Nat} {o:Oper} {ops:Array Oper} {v:Value} {w w0:World}
theorem wp_mono' {a:Act} {K K' : Act→World→Prop} (h:∀v D w,K (Act.put { a with defers:=D } o.dst v) w→K' (Act.put { a with defers:=D } o.dst v) w)
 (hh:o.wp P a w K Q):o.wp P a w K' Q:=by
 unfold Oper.wp at *
 generalize (execOp a.eval o).run P w=r at *
 cases r with
 | ok n w'=>
  cases n<;>simp only[Oper.upon] at hh ⊢ <;>
   first
    | exact h _ a.defers _ hh
    | exact h _ _ _ hh
    | exact xL hh (fun e w'' he=>by cases e<;>first | exact h _ a.defers _ he | exact he)
    | exact Rows.mono hh (fun _ _ he=>h _ a.defers _ he)
 | halt x w'=>cases x<;>simp only[Oper.upon] at hh ⊢<;>exact hh
def Bj (v:Value) (o:Oper):Oper:={ o with op:=.move (.const v) }
def freed (ops:Array Oper) (p:Nat) (v:Value):Array Oper:=ops.modify p (Bj v)
theorem Aw (ops:Array Oper) (p:Nat) (v:Value) (i:Nat):(freed ops p v)[i]?=if p=i then (ops[i]?).map (Bj v) else ops[i]?:=by
 unfold freed;rw[Array.getElem?_modify]
theorem Ej (ops:Array Oper) (p:Nat) (v:Value):(freed ops p v).size=ops.size:=by unfold freed;simp
theorem Bo (ops:Array Oper) (p:Nat) (v:Value) (listed:Array Bool):Region.ready .any (freed ops p v) listed=Region.ready .any ops listed:=by
 unfold Region.ready;rw[Ej];apply List.filter_congr;intro i _;congr 1;rw[Aw]
 by_cases e:p=i
 ·rw[if_pos e];cases ops[i]?<;>rfl
 ·rw[if_neg e]
theorem EH (ops:Array Oper) (p:Nat) (v:Value) (ts:Array Value):yielded (freed ops p v) ts=yielded ops ts:=by
 funext g;unfold yielded;rw[Aw]
 by_cases e:p=g
 ·rw[if_pos e];cases ops[g]?<;>rfl
 ·rw[if_neg e]
def LK (ops:Array Oper) (p d:Nat):Bool:=
 (match ops[p]? with
  | some o=>(match o.op with
   | .move (.tmp t)=>decide (t=d)&&o.guard.isNone&&decide (o.dst≠some d)
   | _=>false)
  | none=>false) &&
 (List.range ops.size).all fun i=>match ops[i]? with
  | none=>true
  | some o=>decide (o.dst≠some d)||o.after.toList.any fun e=>decide (e.on=p)&&Region.binds .any e
theorem Ky {a:Act} {D:List Deferred} {dst:Option Tmp} {d:Nat} (h:dst≠some d):(Act.put { a with defers:=D } dst v).eval (.tmp d)=a.eval (.tmp d):=by
 cases dst with
 | none=>rfl
 | some t=>
  have ht:t≠d:=fun e=>h (by rw[e]);simp[Act.put,Act.eval,zz,ht]
theorem Le {listed:Array Bool} (hi:i∈Region.ready .any ops listed) (ho:ops[i]?=some o):listed.getD i false=false∧∀e∈o.after,Region.binds .any e=true→listed.getD e.on false=true:=by
 obtain⟨h1,o',a,h2⟩:=mem_ready.1 hi;rw[ho] at a;cases a;refine⟨?_,h2⟩;rw[bi] at h1 ⊢;cases h:listed[i]? with
 | none=>rfl
 | some b=>rw[h] at h1;exact h1
theorem zU {P:Program} {ops:Array Oper} {Q:Exit→Act→World→Prop} {p d:Nat} {v:Value} (hok0:LK ops p d=true):∀(fuel:Nat) (listed:Array Bool) (a:Act) (w:World),(listed.getD p false=false→a.eval (.tmp d)=v)→wpAny P .any (freed ops p v) Q fuel listed a w→wpAny P .any ops Q fuel listed a w
 | 0,listed,a,w,hI,h=>by unfold wpAny at h ⊢;rw[Bo] at h;exact h
 | fuel+1,listed,a,w,hI,h=>by
  unfold wpAny at h ⊢;rw[Bo] at h;refine⟨h.1,fun i hi => ?_⟩;have hw:=h.2 i hi;have hup:(listed.setIfInBounds i true).getD p false=false→listed.getD p false=false:=fun h'=>by
   cases hl:listed.getD p false with
   | false=>rfl
   | true=>
    exfalso
    by_cases hs:i<listed.size
    ·rw[xz hs p hl] at h'; cases h'
    have e:listed.setIfInBounds i true=listed:=by rw[Array.setIfInBounds_eq_of_size_le (by omega)]
    rw[e,hl] at h'; cases h'
  have hok:=hok0;unfold LK at hok;rw[dA] at hok;obtain⟨hp,hall⟩:=hok;unfold wpOp at hw ⊢;rw[Aw,EH] at hw;cases ho:ops[i]? with
  | none=>
   rw[ho] at hw;have hw' : wpAny P .any (freed ops p v) Q fuel (listed.setIfInBounds i true) a w:=by
    by_cases e:p=i
    ·rw[if_pos e] at hw;exact hw
    ·rw[if_neg e] at hw;exact hw
   exact zU hok0 fuel _ a w (fun h'=>hI (hup h')) hw'
  | some o=>
   rw[ho] at hw;have hilt:i<ops.size:=(gU.1 ho).1;have hedge:=Le hi ho
   by_cases e:p=i
   ·subst e;rw[if_pos rfl] at hw;simp only[xk] at hw;rw[ho] at hp;simp only at hp;cases hop:o.op with
    | move x=>
     rw[hop] at hp;cases x with
     | tmp t=>
      simp only[dA,decide_eq_true_eq] at hp;obtain⟨⟨rfl,hg⟩,hdst⟩:=hp;have hev:a.eval (.tmp t)=v:=hI hedge.1;have hex:execOp a.eval (Bj v o)=execOp a.eval o:=by unfold execOp Bj;simp only[hop];rw[hev];rfl
      have hnext:∀(v' : Value) (D:List Deferred) (w:World),wpAny P .any (freed ops p v) Q fuel (listed.setIfInBounds p true) (Act.put { a with defers:=D } o.dst v') w→wpAny P .any ops Q fuel (listed.setIfInBounds p true) (Act.put { a with defers:=D } o.dst v') w:=
       fun v' D w hh=>zU hok0 fuel _ _ w (fun _=>by rw[Ky hdst];exact hev) hh
      simp only;have hwt:Region.wanted (Bj v o) (yielded ops a.tmps)=Region.wanted o (yielded ops a.tmps):=rfl;rw[hwt] at hw;split
      ·rename_i hwant;rw[if_pos hwant] at hw;rcases hw with hw|hw
       ·refine .inl (wp_mono' hnext ?_);unfold Oper.wp at hw ⊢;rw[←hex];exact hw
       refine .inr ⟨?_,hw.2⟩;have:=hw.1;unfold Oper.asks at this ⊢;rw[←hex];exact this
      rename_i hwant;rw[if_neg hwant] at hw;exact hnext undef a.defers w hw
     | _=>cases hp
    | _=>rw[hop] at hp;cases hp
   rw[if_neg e] at hw;simp only at hw ⊢;have ho2:=dh.1 hall i (bX.2 hilt);rw[ho] at ho2;simp only[qY,decide_eq_true_eq] at ho2;have hnext:∀(v' : Value) (D:List Deferred) (w:World),wpAny P .any (freed ops p v) Q fuel (listed.setIfInBounds i true) (Act.put { a with defers:=D } o.dst v') w→wpAny P .any ops Q fuel (listed.setIfInBounds i true) (Act.put { a with defers:=D } o.dst v') w:=by
    intro v' D w hh;refine zU hok0 fuel _ _ w (fun h' => ?_) hh;rcases ho2 with h2|h2
    ·rw[Ky h2];exact hI (hup h')
    rw[jU] at h2;obtain⟨e',he',h3⟩:=h2;rw[dA,decide_eq_true_eq] at h3;have:=hedge.2 e' (lW.1 he') h3.2;rw[h3.1] at this;rw[hup h'] at this;cases this
   split
   ·rename_i hwant;rw[if_pos hwant] at hw;exact hw.imp (wp_mono' hnext) id
   rename_i hwant;rw[if_neg hwant] at hw;exact hnext undef a.defers w hw
def freedL:List Oper→Nat→Value→List Oper
 | [],_,_=>[]
 | o::r,0,v=>Bj v o::r
 | o::r,k+1,v=>o::freedL r k v
theorem Dp (v:Value):∀(l:List Oper) (p:Nat),l.modify p (Bj v)=freedL l p v
 | [],p=>by cases p<;>rfl
 | o::r,0=>rfl
 | o::r,k+1=>by rw[List.modify_succ_cons,Dp v r k];rfl
theorem Qw (l:List Oper) (p:Nat) (v:Value):freed ⟨l⟩ p v=⟨freedL l p v⟩:=by
 unfold freed;rw[←Dp];simp
theorem UM {l:List Oper} (p d:Nat) (v0:Value) (hm:P.follows .mixedOrders=true) (hf:LK ⟨l⟩ p d=true) (hv:a0.eval (.tmp d)=v0)
 (h:∀ops:Array Oper,ops=(freedL l p v0).toArray→wpAny P .any ops Q ops.size (Array.replicate ops.size false) a0 { w0 with drawn:=w0.drawn+1 }) :
  (Code.region id ⟨l⟩ true).wp P Q a0 w0:=by
 have h:=h _ rfl;rw[show (freedL l p v0).toArray=freed ⟨l⟩ p v0 from (Qw l p v0).symm,Ej] at h;exact wp_region_any hm (zU hf _ _ _ _ (fun _=>hv) h)
end Pw
namespace Go.Proofs.YtpaeabelhnnbiaaGreat
open _root_.Go.Proofs.Tryz
open Go.RowKit Go.Maps Pw
variable {B B' b c ct f sz:Nat} {H:MH} {T:TypeId} {a:Option Addr} {cs:Array Value} {fs:List Fi} {m:Ma} {ps:List PF} {v:Value} {w w':World} {xs ys:List Value}
theorem Ih (l:List Cc) (a:Option Addr) (c:Nat) (w:World) (hle:l.length≤c) (hnil:a=none→c=0) (hrd:dV w a (l.flatMap jO)) (hb:l.length*24≤140737488355328) :
  Calls Tryz.prog 61 #[.slice a l.length c] w fun e w' => ∃v,e = .returned v∧Own w' w.heap.size 124 3 v l.length (l.flatMap jO)∧Below w.heap.size w w':=by
 cases a with
 | none=>
  have h0:=hnil rfl;have hl:l=[]:=kJ (by omega);subst hl;subst h0;have hq:=fun W=>lU (P:=Tryz.prog) W 41 _ none 0 0 0 0 underlying41;go_enter func61,ntmps61;go_wp2;go_ret;exact⟨_,rfl,by simpa using Own.nil _ _ _ _,Below.refl _ _⟩
 | some ad=>
  have hq:=fun W=>lU (P:=Tryz.prog) W 41 _ (some ad) l.length c 0 0 underlying41;go_enter func61,ntmps61
  go_wp2_with (at_builtin;go_must (refine fo rfl _ _ 41 rfl w.heap.size 124 (.agg #[.int .i64 0,.int .i64 0,.int .i64 0]) 3 24 underlying41 cached_info rfl (by decide) _ 0 [] rfl ?own (some ad) l.length c (l.flatMap jO) rfl (fun h=>(by cases h)) hle (jT l) ?rd (zL l) (by unfold maxLen;omega) (by simpa using hb) ?bb ?k))
  case own=>exact⟨rfl,.inr ⟨w.heap.size,0,0,#[],rfl,az _,aJ.new _ _ _,az _,bK _,by simp,fun j u h=>by simp at h⟩⟩
  case rd=>exact hrd.below ((Below.refl _ _).alloc (az _) _)
  case bb=>exact dZ _ _
  intro v w1 b d;go_wp2;go_ret;exact⟨v,rfl,by simpa using b,((Below.refl _ _).alloc (az _) _).grown d (dZ _ _) (fun k hk=>by cases hk;exact az _)⟩
theorem Qx.fsz (h:Qx H.ma):Ws H.fi:=by
 have h1:(H.fi.map PF.fi).length≤1000:=h.st.1;rw[gK] at h1;refine⟨by omega,fun p hp => ?_⟩;have:=h.st.2 p.fi (fF.2 ⟨p,hp,rfl⟩);have e:p.fi.b.length=p.l.length:=rfl;omega
theorem Qx.spz (h:Qx H.ma) {p:PS} (hp:p∈H.sp):p.ar.length≤1000∧Ay p.tb:=by
 obtain⟨h1,h2⟩:=h.sp.2 p.sp (fF.2 ⟨p,hp,rfl⟩);exact⟨h1,fun k hk=>by have:=h2 k hk;have e:p.sp.tb[k].length=p.tb[k].length:=rfl;omega⟩
def uD (w:World) (B:Nat) (p:PS) (s:Sp):Prop:=p.sp=s∧Own w B 143 7 (.slice p.aa p.ar.length p.ac) p.ar.length (p.ar.flatMap fD)∧uM w B (rT p.ts) p.tb
theorem uD.below {p:PS} {s:Sp} (h:uD w B p s) (hb:Below w.heap.size w w'):uD w' B p s:=⟨h.1,h.2.1.below hb,h.2.2.below hb⟩
def VQ (B:Nat) (s:Sp):nR:=⟨fun v w => ∃p,v = .agg (Ag p)∧uD w B p s,fun _ _ _ hb ⟨p,h1,h2⟩=>⟨p,h1,h2.below hb⟩⟩
def WU (B:Nat) (s:Sp):nR:=⟨fun v w => ∃g p,v = .slice (some ⟨g,0,none⟩) 1 1∧dV w (some ⟨g,0,none⟩) (vR p)∧uD w B p s,fun _ _ _ hb ⟨g,p,h1,h2,h3⟩=>⟨g,p,h1,h2.below hb,h3.below hb⟩⟩
theorem Sy {p:PS} {s:Sp} (h:uD w B p s):∀u∈vR p,u.oneCell' = true:=by
 have h1:=h.2.2.rd.one;rw[←iF,dh] at h1;intro u hu;simp only[vR,Ag,eT,lu,or_false] at hu;simp only[rT,eT,lu,or_false] at h1;rcases hu with rfl|rfl|hu
 ·rfl
 ·rfl
 ·exact h1 u hu
theorem caO_size:(Tryz.prog.info? 41).map (·.size)=some 1:=by kernel_rfl
theorem HY {n:Nat} (ho:Own w B 114 10 (.slice a n c) n xs) (hg:w.grownBy w' (Value.slice a n c).ownBlock) :
  w.grownBy w' none∨∃g cs,aJ w g cs 114∧B≤g∧w.grownBy w' (some g):=by
 cases hr:(Value.slice a n c).ownBlock with
 | none=>rw[hr] at hg;exact .inl hg
 | some g=>
  rw[hr] at hg;obtain⟨cs,hb⟩:=qJ ho g hr;exact .inr ⟨g,cs,hb,ho.ge g hr,hg⟩
theorem ko {n m:Nat} (ho:Own w B 114 10 (.slice a n c) n xs) (hg:w.grownBy w' (Value.slice a n c).ownBlock) (h:Own w B' T sz v m ys) (hT:T≠114):Own w' B' T sz v m ys:=by
 rcases HY ho hg with h1|⟨g,cs,hb,_,h1⟩
 ·exact jA h h1
 ·exact ay h hb (fun e=>hT e.symm) h1
theorem zi {n:Nat} (ho:Own w B 114 10 (.slice a n c) n xs) (hg:w.grownBy w' (Value.slice a n c).ownBlock) (h:aJ w b cs T) (hT:T≠114):aJ w' b cs T:=by
 rcases HY ho hg with h1|⟨g,cs',hb,_,h1⟩
 ·exact h.grown h1 (fun e=>by cases e)
 ·exact h.grown h1 (fun e=>wh h hb hT (aT e).symm)
theorem UQ {n:Nat} (ho:Own w B 114 10 (.slice a n c) n xs) (hg:w.grownBy w' (Value.slice a n c).ownBlock) (h:oD w B' v ps):oD w' B' v ps:=
 ⟨ko ho hg h.own (by decide),fun i p hp=>ko ho hg (h.each i p hp) (by decide),h.apart⟩
theorem Ga {n:Nat} {t:Tb} (ho:Own w B 114 10 (.slice a n c) n xs) (hg:w.grownBy w' (Value.slice a n c).ownBlock) (h:uM w B' cs t):uM w' B' cs t:=
 ⟨h.sz,fun k hk=>by obtain⟨v,h1,h2⟩:=h.own k hk;exact⟨v,h1,ko ho hg h2 (by decide)⟩,h.apart⟩
theorem mach_size:(Tryz.prog.info? 44).map (·.size)=some 11:=by kernel_rfl
theorem slsp_size:(Tryz.prog.info? 42).map (·.size)=some 1:=by kernel_rfl
def jf (f s b:Int):Ma:=if (0≤f∧f≤40)∧(0≤s∧s≤60)∧(0≤b∧b≤80) then ⟨vZ f,Dc s,vJ s,vJ b,⟨[],b⟩,[],[⟨true,[],zTb⟩]⟩ else zMa
def uQ (f s b:Int):Int:=if (0≤f∧f≤40)∧(0≤s∧s≤60)∧(0≤b∧b≤80) then 0 else 4
def noH:MH:=⟨none,0,noM,none,0,[],none,0,none,0,⟨[],[]⟩,none,0,none,0,⟨[],[]⟩,none,0,[],0,none,0,[],none,0,[]⟩
theorem noH_ma:noH.ma=zMa:=rfl
theorem uF (w:World) (B:Nat):qf w B noH:=
 ⟨Own.nil _ _ _ _,Own.nil _ _ _ _,jZ.nil _ _,jZ.nil _ _,⟨Own.nil _ _ _ _,fun i p hp=>by simp[noH] at hp,fun i j p q _ hp=>by simp[noH] at hp⟩,Own.nil _ _ _ _,Own.nil _ _ _ _,fun p hp=>by simp[noH] at hp,by decide⟩
def nTs:Vector Value 8:=⟨#[.slice none 0 0,.slice none 0 0,.slice none 0 0,.slice none 0 0,.slice none 0 0,.slice none 0 0,.slice none 0 0,.slice none 0 0],rfl⟩
def newP:PS:=⟨true,none,0,[],nTs,zTb⟩
theorem RS (w:World) (B:Nat) (hB:B≤w.heap.size):Own (w.alloc (.cells (Ag newP) 114)) B 114 10 (.slice (some ⟨w.heap.size,0,none⟩) 1 1) 1 ([newP].flatMap vR):=
 ⟨rfl,.inr ⟨w.heap.size,0,1,Ag newP,rfl,hB,aJ.new _ _ _,az _,by decide,by decide,fun j u h=>by rw[dM,←pK];rw[show [newP].flatMap vR=(Ag newP).toList from by rw[pO,List.flatMap_nil,oK];rfl] at h;exact h⟩⟩
theorem Kg (f s b:Int) (w:World) (hb64 : -9223372036854775808≤b∧b≤9223372036854775807) :
  Calls Tryz.prog 28 #[.agg #[.int .i64 f,.int .i64 s,.int .i64 b]] w fun r w' => ∃H' : MH,r = .returned (.tuple #[.agg (bP H'),.int .i64 (uQ f s b)])∧qf w' w.heap.size H'∧H'.ma=jf f s b∧Below w.heap.size w w':=by
 go_enter func28,ntmps28;have bx0:=aJ.new w #[.int .i64 f,.int .i64 s,.int .i64 b] 50;have h1:Below w.heap.size w (w.alloc (.cells #[.int .i64 f,.int .i64 s,.int .i64 b] 50)):=(Below.refl _ _).alloc (az _) _;have h2:Below (w.alloc (.cells #[.int .i64 f,.int .i64 s,.int .i64 b] 50)).heap.size (w.alloc (.cells #[.int .i64 f,.int .i64 s,.int .i64 b] 50)) ((w.alloc (.cells #[.int .i64 f,.int .i64 s,.int .i64 b] 50)).alloc (.cells (bP noH) 44)):=(Below.refl _ _).alloc (az _) _;have hy:=ah h1 h2;have bx1:=bx0.ext h2;have rx1:=aJ.new (w.alloc (.cells #[.int .i64 f,.int .i64 s,.int .i64 b] 50)) (bP noH) 44;rw[show (w.alloc (.cells #[.int .i64 f,.int .i64 s,.int .i64 b] 50)).heap.size=w.heap.size+1 from zx _] at rx1;clear h1 h2
 go_wp2_with fail
 refine (Tu f _).mono ?_;rintro r w1 ⟨v1,rfl,hB,hn⟩;have bx1:=bx1.ext hn;have rx1:=rx1.ext hn;have hr:=ah hy hn;have c:=aJ.new w1 #[.slice none 0 0,.int .i64 0] 31;have a:Below w1.heap.size w1 (w1.alloc (.cells #[.slice none 0 0,.int .i64 0] 31)):=(Below.refl _ _).alloc (az _) _;have bx2:=bx1.ext a;have rx2:=rx1.ext a;have hm:=ah hr a;have p1:=(hB.below a);obtain⟨a1,c1,rfl,_⟩:=p1.rd;have hQ:=rx1.lt;have hC:=hy.size;clear hy hn a hB hr bx1
 go_wp2_with (refine ax rfl _ _ _ rfl w1.heap.size #[.slice a1 (vZ f).fs.length c1,.int .i64 0] rfl rfl _ _ c rfl mem_size (fZ _ _ _ _) ?_)
 intro w2 mb2 hh;have bx3:=bx2.grown hh (fun e=>by have:=aT e;omega);have rx3:=rx2.grown hh (fun e=>by have:=aT e;omega);have hg:=hm.grown hh hm.size (fun k hk=>by cases hk;omega);have q1:=ay p1 c (by decide) hh;have hw:w2.cell? ⟨w.heap.size,1,none⟩=some (.int .i64 s):=by rw[bx3.cell];rfl
 clear bx2 rx2 hm c p1 hh
 by_cases hf:0≤f∧f≤40
 ·have e1:ND f=0:=if_pos hf;rw[e1]
  go_wp2_with fail
  refine (OU s _).mono ?_;rintro r w3 ⟨v3,rfl,hv,hb⟩;have bx4:=bx3.ext hb;have rx4:=rx3.ext hb;have mb4:=mb2.ext hb;have p1:=q1.below hb;have hO:=hb.size;have hP:=mb2.lt;have hd:=ah hg hb;obtain⟨a3,c3,rfl,_⟩:=hv.rd;clear bx3 rx3 mb2 q1 hb hg hw
  by_cases hs:0≤s∧s≤60
  ·have e2:Ht s=0:=if_pos hs;rw[e2];have hw:w3.cell? ⟨w.heap.size,1,none⟩=some (.int .i64 s):=by rw[bx4.cell];rfl
   go_wp2_with fail
   refine (JG s _).mono ?_;rintro r w4 ⟨vb,vq,rfl,hu,u⟩;have a:Below w4.heap.size w4 (w4.alloc (.cells #[.slice none 0 0,.slice none 0 0] 37)):=(Below.refl _ _).alloc (az _) _;have c:=aJ.new w4 #[.slice none 0 0,.slice none 0 0] 37;have hN:=u.size;have bx5:=(bx4.ext u).ext a;have rx5:=(rx4.ext u).ext a;have mb5:=(mb4.ext u).ext a;have q1:=(p1.below u).below a;have q3:=(hv.below u).below a;have q4:jZ _ _ _ _ _:=⟨hu.b.below a,hu.q.below a⟩;have hl:=ah (ah hd u) a;obtain⟨ab,cb,rfl,_⟩:=q4.b.rd;obtain⟨aq,cq,rfl,_⟩:=q4.q.rd;have hI:=(mb4.ext u).lt;clear bx4 rx4 mb4 p1 hv hu u a hd hw
   go_wp2_with (refine ax rfl _ _ _ rfl w4.heap.size #[.slice ab (vJ s).blocks.length cb,.slice aq (vJ s).queue.length cq] rfl rfl _ _ c rfl disk_size (pU _ _ _ _ _ _) ?_)
   intro w5 sb5 y;have bx6:=bx5.grown y (fun e=>by have:=aT e;omega);have rx6:=rx5.grown y (fun e=>by have:=aT e;omega);have mb6:=mb5.grown y (fun e=>by have:=aT e;omega);have hq:=hl.grown y hl.size (fun k hk=>by cases hk;omega);have p1:=ay q1 c (by decide) y;have p3:=ay q3 c (by decide) y;have p4:=q4.keep c (by decide) (by decide) y;have hx:w5.cell? ⟨w.heap.size,2,none⟩=some (.int .i64 b):=by rw[bx6.cell];rfl
   clear bx5 rx5 mb5 q1 q3 q4 y c hl
   go_wp2_with fail
   refine (JG b _).mono ?_;rintro r w6 ⟨vb,vq,rfl,ht,l⟩;have a:Below w6.heap.size w6 (w6.alloc (.cells #[.slice none 0 0,.slice none 0 0] 37)):=(Below.refl _ _).alloc (az _) _;have c:=aJ.new w6 #[.slice none 0 0,.slice none 0 0] 37;have hL:=l.size;have hH:=sb5.lt;have hG:=(sb5.ext l).lt;have bx7:=(bx6.ext l).ext a;have rx7:=(rx6.ext l).ext a;have mb7:=(mb6.ext l).ext a;have sb7:=(sb5.ext l).ext a;have q1:=(p1.below l).below a;have q3:=(p3.below l).below a;have q4:jZ _ _ _ _ _:=⟨(p4.b.below l).below a,(p4.q.below l).below a⟩;have q6:jZ _ _ _ _ _:=⟨ht.b.below a,ht.q.below a⟩;have hj:=ah (ah hq l) a;obtain⟨db,dcb,rfl,_⟩:=q6.b.rd;obtain⟨dq,dcq,rfl,_⟩:=q6.q.rd;clear bx6 rx6 mb6 sb5 p1 p3 p4 ht l a hq hx
   go_wp2_with (refine ax rfl _ _ _ rfl w6.heap.size #[.slice db (vJ b).blocks.length dcb,.slice dq (vJ b).queue.length dcq] rfl rfl _ _ c rfl disk_size (pU _ _ _ _ _ _) ?_)
   intro w7 db7 o;have bx8:=bx7.grown o (fun e=>by have:=aT e;omega);have rx8:=rx7.grown o (fun e=>by have:=aT e;omega);have mb8:=mb7.grown o (fun e=>by have:=aT e;omega);have sb8:=sb7.grown o (fun e=>by have:=aT e;omega);have hc:=hj.grown o hj.size (fun k hk=>by cases hk;omega);have p1:=ay q1 c (by decide) o;have p3:=ay q3 c (by decide) o;have p4:=q4.keep c (by decide) (by decide) o;have p6:=q6.keep c (by decide) (by decide) o;have hx:w7.cell? ⟨w.heap.size,2,none⟩=some (.int .i64 b):=by rw[bx8.cell];rfl
   clear bx7 rx7 mb7 sb7 q1 q3 q4 q6 o c hj
   by_cases hk:0≤b∧b≤80
   ·have e3:NH b=0:=if_pos hk;rw[e3]
    go_wp2_with fail
    refine (QQ b _).mono ?_;rintro r w8 ⟨rfl,d⟩;have e4:Uk b=b:=if_neg (by omega);have e5:Vg b=0:=if_neg (by omega);rw[e4,e5];have a:Below w8.heap.size w8 (w8.alloc (.cells #[.slice none 0 0,.int .i64 0] 40)):=(Below.refl _ _).alloc (az _) _;have c:=aJ.new w8 #[.slice none 0 0,.int .i64 0] 40;have hK:=d.size;have hF:=db7.lt;have hE:=(db7.ext d).lt;have rx9:=(rx8.ext d).ext a;have mb9:=(mb8.ext d).ext a;have sb9:=(sb8.ext d).ext a;have db9:=(db7.ext d).ext a;have q1:=(p1.below d).below a;have q3:=(p3.below d).below a;have q4:jZ _ _ _ _ _:=⟨(p4.b.below d).below a,(p4.q.below d).below a⟩;have q6:jZ _ _ _ _ _:=⟨(p6.b.below d).below a,(p6.q.below d).below a⟩;have hi:=ah (ah hc d) a;clear bx8 rx8 mb8 sb8 db7 p1 p3 p4 p6 d a hc hx
    go_wp2_with (refine ax rfl _ _ _ rfl w8.heap.size #[.slice none 0 0,.int .i64 b] rfl rfl _ _ c rfl store_size (fZ _ _ _ _) ?_)
    intro w9 tb9 n;have rx10:=rx9.grown n (fun e=>by have:=aT e;omega);have mb10:=mb9.grown n (fun e=>by have:=aT e;omega);have sb10:=sb9.grown n (fun e=>by have:=aT e;omega);have db10:=db9.grown n (fun e=>by have:=aT e;omega);have ha:=hi.grown n hi.size (fun k hk=>by cases hk;omega);have p1:=ay q1 c (by decide) n;have p3:=ay q3 c (by decide) n;have p4:=q4.keep c (by decide) (by decide) n;have p6:=q6.keep c (by decide) (by decide) n;clear rx9 mb9 sb9 db9 q1 q3 q4 q6 n c hi;obtain⟨M,hM⟩:∃M:MH,Hid (M=⟨a1,c1,⟨(vZ f).fs,0⟩,a3,c3,Dc s,ab,cb,aq,cq,vJ s,db,dcb,dq,dcq,vJ b,none,0,[],b,none,0,[],some ⟨w9.heap.size,0,none⟩,1,[newP]⟩):=⟨_,ae rfl⟩;have t:Below w9.heap.size w9 (w9.alloc (.cells (Ag newP) 114)):=(Below.refl _ _).alloc (az _) _;have rx11:=rx10.ext t;have q1:=p1.below t;have q3:=p3.below t;have q4:jZ _ _ _ _ _:=⟨p4.b.below t,p4.q.below t⟩;have q6:jZ _ _ _ _ _:=⟨p6.b.below t,p6.q.below t⟩;have q7:=RS w9 w.heap.size ha.size;have z:=ah ha t;have hD:=tb9.lt;have hJ:=rx10.lt;clear p1 p3 p4 p6 t
    go_wp2_with (first | (refine aA _ _ rfl w1.heap.size 0 rfl rfl _ mb10.rd _ underlying31 rfl mem_size ?_) | (refine aA _ _ rfl w4.heap.size 0 rfl rfl _ sb10.rd _ underlying37 rfl disk_size ?_) | (refine aA _ _ rfl w6.heap.size 0 rfl rfl _ db10.rd _ underlying37 rfl disk_size ?_) | (refine aA _ _ rfl w8.heap.size 0 rfl rfl _ tb9.rd _ underlying40 rfl store_size ?_) | (refine ax rfl _ _ _ rfl (w.heap.size+1) #[.slice a1 (vZ f).fs.length c1,.int .i64 0,.slice a3 (Dc s).length c3,.slice ab (vJ s).blocks.length cb,.slice aq (vJ s).queue.length cq,.slice db (vJ b).blocks.length dcb,.slice dq (vJ b).queue.length dcq,.slice none 0 0,.int .i64 b,.slice none 0 0,.slice (some ⟨w9.heap.size,0,none⟩) 1 1] rfl rfl _ _ rx11 rfl mach_size (by simp[Value.oneCell']) ?_))
    intro we x g;have hz : aJ we (w.heap.size+1) (bP M) 44:=by rw[hM.out];exact x
    have m:=z.grown g z.size (fun k hk=>by cases hk;omega);have hA:qf we w.heap.size M:=by
     rw[hM.out];refine⟨(ay q1 rx11 (by decide) g).mono hC,(ay q3 rx11 (by decide) g).mono (by omega),?_,?_,⟨Own.nil _ _ _ _,fun i p hp=>by simp at hp,fun i j p q _ hp=>by simp at hp⟩,Own.nil _ _ _ _,ay q7 rx11 (by decide) g,fun p hp => ?_,hb64⟩
     ·exact (q4.keep rx11 (by decide) (by decide) g).mono (by omega)
     ·exact (q6.keep rx11 (by decide) (by decide) g).mono (by omega)
     rw[bF.1 hp];exact⟨Own.nil _ _ _ _,Bf _ _⟩
    clear x rx10 rx11 mb10 sb10 db10 tb9 q1 q3 q4 q6 q7 g ha z;go_wp2;refine bodyPost_ret (v:=.tuple #[.agg (bP M),.int .i64 0]) (eF results28 _ _ (w.heap.size+1) _ _ _ _ rfl rfl hz underlying44 rfl mach_size) rfl ?_;refine⟨M,by rw[show uQ f s b=0 from if_pos ⟨hf,hs,hk⟩],hA,?_,m⟩;rw[show jf f s b=_ from if_pos ⟨hf,hs,hk⟩,hM.out];unfold MH.ma;rw[show vZ f=⟨List.replicate f.toNat frZ,0⟩ from if_pos hf];rfl
   have e3:NH b=4:=if_neg hk;rw[e3]
   go_wp2_with (refine ax rfl _ _ _ rfl (w.heap.size+1) (bP noH) rfl rfl _ _ rx8 rfl mach_size (dz noH) ?_)
   intro we x g;have m:=hc.grown g hc.size (fun k hk=>by cases hk;omega);go_wp2;refine bodyPost_ret (v:=.tuple #[.agg (bP noH),.int .i64 4]) (eF results28 _ _ (w.heap.size+1) _ _ _ _ rfl rfl x underlying44 rfl mach_size) rfl ?_;exact⟨noH,by rw[show uQ f s b=4 from if_neg (fun h=>hk h.2.2)],uF _ _,by rw[show jf f s b=zMa from if_neg (fun h=>hk h.2.2)];rfl,m⟩
  have e2:Ht s=4:=if_neg hs;rw[e2]
  go_wp2_with (refine ax rfl _ _ _ rfl (w.heap.size+1) (bP noH) rfl rfl _ _ rx4 rfl mach_size (dz noH) ?_)
  intro we x g;have m:=hd.grown g hd.size (fun k hk=>by cases hk;omega);go_wp2;refine bodyPost_ret (v:=.tuple #[.agg (bP noH),.int .i64 4]) (eF results28 _ _ (w.heap.size+1) _ _ _ _ rfl rfl x underlying44 rfl mach_size) rfl ?_;exact⟨noH,by rw[show uQ f s b=4 from if_neg (fun h=>hs h.2.1)],uF _ _,by rw[show jf f s b=zMa from if_neg (fun h=>hs h.2.1)];rfl,m⟩
 have e1:ND f=4:=if_neg hf;rw[e1]
 go_wp2_with (refine ax rfl _ _ _ rfl (w.heap.size+1) (bP noH) rfl rfl _ _ rx3 rfl mach_size (dz noH) ?_)
 intro we x g;have m:=hg.grown g hg.size (fun k hk=>by cases hk;omega);go_wp2;refine bodyPost_ret (v:=.tuple #[.agg (bP noH),.int .i64 4]) (eF results28 _ _ (w.heap.size+1) _ _ _ _ rfl rfl x underlying44 rfl mach_size) rfl ?_;exact⟨noH,by rw[show uQ f s b=4 from if_neg (fun h=>hf h.1)],uF _ _,by rw[show jf f s b=zMa from if_neg (fun h=>hf h.1)];rfl,m⟩
structure Fb (ct:Nat) (bl:List Page) (q:List (Int × Page)) (fs:List Fi) (x:List Int):Prop where
 cl:bl.length=ct∧ct≤80
 ok:∀f∈fs,Em ct f
 nd:(lH (fs.flatMap Fi.b++x)).Nodup
 xb:∀b∈x,-1≤b∧b<ct
 tr:∀b:Int,0≤b→b<ct→b∈fs.flatMap Fi.b++x∨bl.getD b.toNat zPg=zPg
 qb:∀p∈q,p.1∈fs.flatMap Fi.b++x∧0≤p.1∧p.1<ct
 ql:q.length≤12*fs.length+x.length
theorem Fb.start (h:ct≤80):Fb ct (List.replicate ct zPg) [] [] [] where
 cl:=⟨by simp,h⟩
 ok:=fun f hf=>by cases hf
 nd:=by simp[lH]
 xb:=fun b hb=>by cases hb
 tr:=fun b h0 h1 => .inr (by rw[bJ,sP,if_pos (by omega)];rfl)
 qb:=fun p hp=>by cases hp
 ql:=by simp
def GV (f s ct:Nat) (bl:List Page) (q:List (Int × Page)) (fs:List Fi):Ma:=⟨⟨List.replicate f frZ,0⟩,List.replicate s 0,⟨List.replicate s zPg,[]⟩,⟨bl,q⟩,⟨fs,ct⟩,[],[]⟩
theorem Fb.bd {s:Nat} {bl:List Page} {q:List (Int × Page)} (h:Fb ct bl q fs []) (hl:fs.length≤5) (hf:f≤40) (hs:s≤60):Bd (GV f s ct bl q fs) []:=by
 have a:∀i,i<f→aD (GV f s ct bl q fs) i=frZ:=fun i hi=>by unfold aD GV;rw[bJ,sP,if_pos hi];rfl
 have g:∀p n,(aF (GV f s ct bl q fs) p n).k=0:=fun p n=>by unfold aF;rw[qo (by simp[GV])];show (dB zTb n).k=0;rw[qm];rfl
 have hw:aQ ⟨fs,(ct:Int)⟩=0:=kZ.2 ⟨⟨hl,by show (0:Int)≤ct;omega,by show (ct:Int)≤80;have:=h.cl.2;omega⟩,h.ok,by have:=h.nd;rw[oK] at this;exact this⟩;have o:cK ⟨bl,q⟩=0:=(kz _).2 ⟨by show bl.length≤80;have:=h.cl;omega,by show q.length≤400;have:=h.ql;simp only[zD] at this;omega,fun x hx=>by have:=(h.qb x hx).2;have e:bl.length=ct:=h.cl.1;show 0≤x.1∧x.1<(bl.length:Int);omega⟩;have j:cK ⟨List.replicate s zPg,[]⟩=0:=(kz _).2 ⟨by simp;omega,by simp,fun x hx=>(by cases hx)⟩;have l:dH (List.replicate s (0:Int))=0:=FU (by simp;exact hs) fun x hx=>by rw[(BQ.1 hx).2];decide
 have hm:bI ⟨List.replicate f frZ,0⟩=0:=(dN _).2 ⟨by simp;exact hf,fun x hx=>by rw[(BQ.1 hx).2];decide,Int.le_refl _,.inl rfl⟩;have d:ut (GV f s ct bl q fs) []=GV f s ct bl q fs:=rfl;have hh:∀kd i,bN (GV f s ct bl q fs) kd i=0:=fun _ _=>rfl;have hc:∀i,tO (GV f s ct bl q fs) i=0:=fun _=>rfl;refine⟨⟨rfl,fun t ht=>(by cases ht),fun t ht=>(by cases ht)⟩,?_,?_⟩
 ·rw[d];refine⟨⟨hm,l,j,o,hw,by simp[GV],by have:=h.cl.1;show (bl.length:Int)=ct;omega,by simp[GV],fun s hs=>(by cases hs),fun s hs=>(by cases hs)⟩,⟨fun b h0 h1 => ?_,fun p hp => ?_⟩,fun p _=>⟨by rw[qo (by simp[GV])];rfl,fun n=>g p n⟩,⟨fun c hc=>(by cases hc),fun c hc=>(by cases hc),fun c hc=>(by cases hc),List.Pairwise.nil⟩,fun p n hk=>absurd (g p n) hk,fun i hi => ?_,fun i hi h0 => ?_,fun i hi => ?_⟩
  ·have e:(GV f s ct bl q fs).dk.blocks.length=ct:=h.cl.1;have:=h.tr b h0 (by omega);rw[oK] at this;exact this
  ·have:=(h.qb p hp).1;rw[oK] at this;exact this
  ·rw[a i (by have e:(GV f s ct bl q fs).m.fs.length=f:=lX;omega),hh,hc];rfl
  ·rw[a i (by have e:(GV f s ct bl q fs).m.fs.length=f:=lX;omega)] at h0;exact absurd h0 (by decide)
  rw[hh];have e:(GV f s ct bl q fs).sl.length=s:=lX;unfold iI;show (List.replicate s (0:Int)).getD i 0=_;rw[bJ,sP,if_pos (by omega)];rfl
 rw[d];refine⟨fun c hc=>(by cases hc),fun c hc=>(by cases hc),fun i hi hd => ?_⟩;rw[a i (by have e:(GV f s ct bl q fs).m.fs.length=f:=lX;omega)] at hd;exact absurd hd (by decide)
theorem SN {s:Nat} (hf:f≤40) (hs:s≤60) (hc:ct≤80):ut { GV f s ct (List.replicate ct zPg) [] [] with sp:=[⟨true,[],zTb⟩] } [List.replicate 64 zEn]=jf f s ct:=by
 have e1:jf f s ct=⟨vZ f,Dc s,vJ s,vJ ct,⟨[],ct⟩,[],[⟨true,[],zTb⟩]⟩:=if_pos ⟨⟨by omega,by omega⟩,⟨by omega,by omega⟩,by omega,by omega⟩;have hz:rJ (List.replicate 64 zEn)=zTb:=by decide +kernel
 rw[e1];unfold vZ Dc vJ ut GV;rw[if_pos (by omega),if_pos (by omega),if_pos (by omega),if_pos (by omega)];simp only[bG,mR,zD];have e2:rJ (Ps [List.replicate 64 zEn] 0)=zTb:=hz;show (⟨⟨List.replicate f frZ,0⟩,List.replicate s 0,⟨List.replicate s zPg,[]⟩,⟨List.replicate ct zPg,[]⟩,⟨[],ct⟩,[],[⟨true,[],rJ (Ps [List.replicate 64 zEn] 0)⟩]⟩:Ma)=_;rw[e2]
theorem tC (h:Rt m):Qx m:=by
 have h1:=h.pt;have hw:=(kz _).1 h1.sw;have hd:=(kz _).1 h1.dk;have a:=(kw h1.st).1;refine⟨by have:=((dN _).1 h1.fr).1;omega,by have:=kM h1.sl;omega,by omega,by omega,by omega,by omega,⟨by omega,fun f hf=>by have:=PV h1.st f hf;omega⟩,by have:=VY h.ca h1.st;omega,by have:=h1.spl;omega,fun s hs=>⟨?_,fun k hk => ?_⟩⟩
 ·have:=(ou.1 (h1.ar s hs)).1;omega
 ·have:=qL (mW (h1.tb s hs) k hk);omega
theorem IG {g o:Nat} {P:PS} (h:dV w (some ⟨g,o,none⟩) (vR P)):w.cell? ⟨g,o+1,none⟩=some (.slice P.aa P.ar.length P.ac):=by
 obtain⟨b',o',e',a⟩:=h 1 _ rfl;cases e';exact a
theorem MG (H:MH) (e f i:Int) (B b:Nat) (w:World) (h:iJ w B b H e) (hR:Rt H.ma) (hin:ni H.ma.st f i) :
  Calls Tryz.prog 124 #[.pointer (some ⟨b,0,none⟩),.int .i64 f,.int .i64 i] w fun r w'=>r = .returned (.int .i64 (fw ⟨H.ma,e⟩ f i).2)∧KR w B b H w' (fw ⟨H.ma,e⟩ f i).1:=by
 have hz:=tC hR;obtain⟨F,rfl⟩:∃F:Nat,f=F:=⟨f.toNat,by have:=hin.1;omega⟩;obtain⟨I,rfl⟩:∃I:Nat,i=I:=⟨i.toNat,by have:=hin.2;omega⟩;have hF:F<H.fi.length:=by have:=hin.1.2;have e1:H.ma.st.fs.length=H.fi.length:=gK _;omega
 obtain⟨P,hP⟩:∃P,H.fi[F]?=some P:=⟨_,aN hF⟩;have g:aI H.ma.st F=P.fi:=kH (by show (H.fi.map PF.fi)[F]?=_;rw[jd,hP];rfl);have hb:=oG hin;rw[g,bG] at hb;have d:=AA hR.pt.st hin;have a:=mE hR.pt.st hin.1;rw[g] at d a;have j:=block_lt hR.pt.st hin;refine Ke H e F I P _ B b w h hP hb ⟨a.1,by have:P.n≤96:=a.2.1;omega⟩ (by omega) (fun c hc=>hR.ca.lt c hc) (fun h0 => ?_) (by have:=hz.sp.1;rwa [pI] at this) hz.ca hz.fs;rw[iV];have:=hR.pt.dkl;exact⟨hR.pt.dk,h0,by show _<(H.ma.dk.blocks.length:Int);omega⟩
theorem SB (ps:List PF) (k:Int) (f i:Int) (a:Option Addr) (c:Nat) (w:World) (h:Qy w a c ps) (hf:0≤f∧f<(ps.length:Int)) (hn:(aI (bQ ps k) f).n≤9223372036854775807) :
  Calls Tryz.prog 164 #[.agg (Qz a ps.length c k),.int .i64 f,.int .i64 i] w fun r w'=>r = .returned (.bool (nZ (bQ ps k) f i))∧Below w.heap.size w w':=by
 obtain⟨F,rfl⟩:∃F:Nat,f=F:=⟨f.toNat,by omega⟩;have hF:F<ps.length:=by omega
 have b:aI (bQ ps k) F=(ps[F]).fi:=kH (by show (ps.map PF.fi)[F]?=_;rw[jd,aN hF];rfl);have hE:Hid (nZ (bQ ps k) F i=decide (gG (ps[F]).n≤i)):=ae (by unfold nZ;rw[b];rfl);rw[b] at hn;unfold Qz;go_enter func164,ntmps164;go_upto_region 1 with (fail);refine je (fun W=>Code.wp _ _ _ _ W) fun w1 d bx1 e => ?_;obtain⟨b',o',P,rfl,hP,g,_⟩:=yR (h.below d).rd F hF;rw[aN hF] at hP;have hP:=aT hP;rw[hP] at hE hn;have hc:=bx1.cell;have j:(F:Int)<(ps.length:Int):=by omega
 clear b hP h
 go_wp2_with fail
 refine (Ah P.n _ hn).mono ?_;rintro r w2 ⟨rfl,rfl⟩;go_wp2;go_ret;rw[hE.out];exact⟨rfl,d⟩
def EI (m:Ma) (p:Nat) (n:Int) (w:Bool):Ar:=if ng m p n w≠0 then zAr else jo m p n
theorem wD (a:Ar):(kQ a).all (·.oneCell')=true:=by simp[kQ,Value.oneCell']
theorem jH : (Tryz.prog.info? 143).map (·.size)=some 7:=by kernel_rfl
theorem Tj (H:MH) (e n:Int) (p:Nat) (wr:Bool) (B b:Nat) (w:World) (h:iJ w B b H e) (hp:p<H.sp.length) :
    Calls Tryz.prog 163 #[.pointer (some ⟨b,0,none⟩),.int .i64 p,.int .i64 n,.bool wr] w fun r w'=>r = .returned (.tuple #[.agg (kQ (EI H.ma p n wr)),.int .i64 (ng H.ma p n wr)])∧Below w.heap.size w w':=by
  obtain⟨P,hP⟩:∃P,H.sp[p]?=some P:=⟨_,aN hp⟩;have x:=ae (nT hP);have hr:(p:Int)<(H.sp.length:Int):=by omega
  go_enter func163,ntmps163;go_upto_region 1 with (fail);refine je (fun W=>Code.wp _ _ _ _ W) fun w1 hd ax1 hl => ?_;have k1:=h.below hd;clear h;obtain⟨g,off,s,c,y,d⟩:=k1.at hP;have hc:=k1.blk.cell;unfold lG at hc;rw[s] at hc;have t:=IG c;have hA:=d.ars
  go_wp2_with fail
  refine (Az P.ar n P.aa P.ac _ hA.rd (by have:=hA.le;have:=hA.mx;unfold maxLen at this;omega)).mono ?_;rintro r w2 ⟨rfl,i⟩;have hj:=hA.below i;have k2:=k1.below i;have ax2:=ax1.ext i;have j:=ah hd i;clear hc t c y d s k1 hA ax1 hd i hl
  by_cases hneg:eQ P.ar n<0
  · have hE:Hid (EI H.ma p n wr=zAr∧ng H.ma p n wr=5):=ae (by
      have e1:ng H.ma p n wr=5:=by unfold ng;rw[x.out];exact if_pos hneg
      exact⟨by unfold EI;rw[e1];exact if_pos (by decide),e1⟩)
    go_wp2_with (refine ax rfl _ _ _ rfl w.heap.size (kQ zAr) rfl rfl _ _ ax2 rfl jH (wD zAr) ?_)
    intro we m o;have f:=j.grown o j.size (fun k hk=>by cases hk;exact az _);go_wp2;rw[hE.out.1,hE.out.2];refine bodyPost_ret (v:=.tuple #[.agg (kQ zAr),_]) (eF results163 _ _ w.heap.size _ _ _ _ rfl rfl m underlying143 rfl jH) rfl ?_;exact⟨rfl,f⟩
  obtain⟨k,hk,hg,_⟩:=uK (q:=uT n) (l:=P.ar) (by show 0≤eQ P.ar n;omega);have ha : eQ P.ar n=k:=hk;have hf:Hid (jo H.ma p n=P.ar[k]):=ae (by unfold jo;rw[x.out];show P.ar.getD (eQ P.ar n).toNat zAr=_;rw[ha,bG,bJ,aN hg];rfl);obtain⟨ba,oa,hi,u⟩:=nU jk (by decide) hj.rd k hg;have z:Hid (ng H.ma p n wr=if (wr=true∧(P.ar[k]).wr=false)∨(wr=false∧(P.ar[k]).rd=false) then 8 else 0):=ae (by
    have e1:¬eQ (bE H.ma p).ar n<0:=by rw[x.out];exact hneg
    unfold ng;rw[if_neg e1,hf.out])
  generalize P.ar[k]=a at *
  obtain⟨g,off,s,c,y,d⟩:=k2.at hP;have hc:=k2.blk.cell;unfold lG at hc;rw[s] at hc;have t:=IG c;rw[hi] at t;rw[ha] at hneg ⊢;have hs:(k:Int)<(P.ar.length:Int):=by omega
  clear hk ha hneg c y d s hj hi
  go_wp2_with (first | (refine aA _ _ rfl ba (oa+k*7) rfl rfl _ u _ underlying143 rfl jH ?_) | (refine aW rfl _ _ _ rfl (kQ a) rfl rfl rfl jH (wD a) ?_))
  intro w3 hb bx3;have j:=ah j hb;have ax2:=ax2.ext hb;clear hc t u hb k2;have hh:=bx3.cell;unfold kQ at hh;have hm:dV w3 (some ⟨w2.heap.size,0,none⟩) (fD a):=bW bx3 0 7;have hq:Hid ((wr=true∧a.wr=false)∨(wr=false∧a.rd=false)→EI H.ma p n wr=zAr∧ng H.ma p n wr=8):=ae fun hc=>by
    have e1:ng H.ma p n wr=8:=by rw[z.out,if_pos hc]
    exact⟨by unfold EI;rw[e1];exact if_pos (by decide),e1⟩
  have hn:Hid (¬((wr=true∧a.wr=false)∨(wr=false∧a.rd=false))→EI H.ma p n wr=a∧ng H.ma p n wr=0):=ae fun hc=>by
    have e1:ng H.ma p n wr=0:=by rw[z.out,if_neg hc]
    exact⟨by unfold EI;rw[e1];exact hf.out,e1⟩
  clear z hf;cases wr<;>cases c:a.rd<;>cases hwr:a.wr<;>rw[c,hwr] at hh
  all_goals
    first
      | (have hE:=ae (hn.out (by simp[c,hwr]))
         go_wp2_with (first | (refine aA _ _ rfl w2.heap.size 0 rfl rfl _ hm _ underlying143 rfl jH ?_) | (refine ax rfl _ _ _ rfl w.heap.size (kQ a) rfl rfl _ _ ax2 rfl jH (wD a) ?_))
         intro we m o;have f:=j.grown o j.size (fun k hk=>by cases hk;exact az _);go_wp2;rw[hE.out.1,hE.out.2];refine bodyPost_ret (v:=.tuple #[.agg (kQ a),_]) (eF results163 _ _ w.heap.size _ _ _ _ rfl rfl m underlying143 rfl jH) rfl ?_;exact⟨rfl,f⟩)
      | (have hE:=ae (hq.out (by simp[c,hwr]))
         go_wp2_with (refine ax rfl _ _ _ rfl w.heap.size (kQ zAr) rfl rfl _ _ ax2 rfl jH (wD zAr) ?_)
         intro we m o;have f:=j.grown o j.size (fun k hk=>by cases hk;exact az _);go_wp2;rw[hE.out.1,hE.out.2];refine bodyPost_ret (v:=.tuple #[.agg (kQ zAr),_]) (eF results163 _ _ w.heap.size _ _ _ _ rfl rfl m underlying143 rfl jH) rfl ?_;exact⟨rfl,f⟩)
end Go.Proofs.YtpaeabelhnnbiaaGreat
namespace Pw
open Go Go.RowKit
variable {P:Program} {Q:Exit → Act → World → Prop} {a0:Act} {id:Nat} {ops:Array Oper} {rest:List Oper} {t0:Array Value} {w0:World}
theorem RO (m:Nat) (l:List nR) (J:(Nat→Bool)→(Nat→Value)→World→Prop) (hst:∀L y w w',Below w.heap.size w w'→J L y w→J L y w') (hJ0:∀y,J (fun _=>false) y w0) (hfix:Fixed l) (hm:P.follows .mixedOrders=true) (ops' : Array Oper) (hs:dD ops=ops') (hok:jV ops' = true) (ht:jm ops' m=true) (hmn:m≤ops'.size)
 (n:Nat) (hn:a0.tmps.size=n) (hsz:lg ops' n=true)
 (hstep:bC (wL P ops' a0 J l) 0 (ops'.toList.take m))
 (hend:∀y w,J (fun i=>decide (i<m)) y w→(∀i,i<m→rl l i (y i) w)→wpList P ops' Q (ops'.toList.drop m) { a0 with tmps:=lay (fun i=>decide (i<m)) y ops'.toList 0 a0.tmps } w) :
  (Code.region id ops true).wp P Q a0 w0:=by
 refine wp_region_any hm (Ac _ _ _ _ ?_);have h9:=Pi m l J hst hJ0 hfix hok ht hmn n hn hsz hstep hend;subst hs;rw[yF] at h9;exact h9
theorem oo {df:List Deferred} (m:Nat) (l:List RV) (J:(Nat→Bool)→(Nat→Value)→World→Prop) (hst:∀L y w w',Below w.heap.size w w'→J L y w→J L y w') (hJ0:∀y,J (fun _=>false) y w0)
 (hstep:bC (wL P (dD ops) ⟨t0,df⟩ J (rvs l)) 0 ((dD ops).toList.take m)) {tm:(Nat→Value)→List Value} (hf:∀y,zw y l (dD ops).toList t0.toList=some (tm y)) (hd:wr ((dD ops).toList.drop m)=some rest)
 (hend:∀y w,J (fun i=>decide (i<m)) y w→(∀i,i<m→rl (rvs l) i (y i) w)→wpList P (dD ops) Q rest ⟨(tm y).toArray,df⟩ w)
 (hfix:Fixed (rvs l):=by repeat (first | exact fix_nil | refine QD (fun _ _ _ h=>h) ?_))
 (hm:P.follows .mixedOrders=true:=by kernel_rfl) (hok:jV (dD ops)=true:=by kernel_rfl) (ht:jm (dD ops) m=true:=by kernel_rfl) (hmn:m≤(dD ops).size:=by decide) (hll:l.length=m:=by rfl) (hix:idxOk l 0=true:=by kernel_rfl)
 (hsz:lg (dD ops) t0.size=true:=by kernel_rfl):(Code.region id ops true).wp P Q ⟨t0,df⟩ w0:=by
 refine RO m (rvs l) J hst hJ0 hfix hm (dD ops) rfl hok ht hmn _ rfl hsz hstep fun y w hb hR => ?_;have h:=hend y w hb hR;rw[QW hd];show wpList P (dD ops) Q rest ⟨lay (fun i=>decide (i<m)) y (dD ops).toList 0 t0,df⟩ w;rw[OD hix hll hmn hR (hf y)];exact h
end Pw
namespace Go.Proofs.YtpaeabelhnnbiaaGreat
open _root_.Go.Proofs.Tryz
open Go.RowKit Go.Maps Pw
variable {L:Nat → Bool} {P:Program} {g:Pg} {i p:Nat} {m m':Ma} {n:Int} {o op:Oper} {ops:Array Oper} {w w':World} {y:Nat → Value} {ρ:Operand → Value}
theorem lL (ty:TypeId) (x y:Operand) (ho:op.op = .store ty x y)
 (b o:Nat) (v:Value) (cells:List Value) (hx:ρ x = .pointer (some ⟨b,o,none⟩)) (hy:ρ y=v) (hc:v.cells.toList=cells) (cur:Array Value) (T:TypeId) (hg:aJ w b cur T)
 (hfit:o+cells.length≤cur.size) (hi:(P.info? ty).map (·.size)=some cells.length) (h1:∀u∈cells,u.oneCell' = true):(execOp ρ op).run P w = .ok .skip (w.setCells b o cells):=by
 have a:=run_storeCells_cells (P:=P) b o cells 0 w
  (fun j hj=>by rw[lZ,hg.cell];simp[show o+j<cur.size by omega]) (fun j hj=>hg.free _) h1
 simp only[lZ] at a;have c:(storeVar ty ⟨b,o,none⟩ v).run P w = .ok () (w.setCells b o cells):=by
  cases hq:P.info? ty with
  | none=>simp[hq] at hi
  | some i=>
   have hs:i.size=cells.length:=by simpa[hq] using hi
   have hv:v.cells.size=cells.length:=by rw[←hc];simp
   simp[storeVar,Go.sizeOf,typeInfo,hq,hs,hv,hc,a]
 unfold execOp;simp only[ho,hx,hy,Instr.storeAt,Instr.sureAddr,kK,qa,pY,c]
theorem jw {l:List nR} {J:(Nat→Bool)→(Nat→Value)→World→Prop} (hw:Region.wanted o (iH ρ ops)=true) (hrun:(execOp ρ o).run P w = .ok .skip w')
 (hJ:J (pE L i) (uy y i undef) w') (hR:rl l i undef w') :
  if Region.wanted o (iH ρ ops)=true then dU P o ρ w (fun v w'=>J (pE L i) (uy y i v) w'∧rl l i v w') else J (pE L i) (uy y i undef) w∧rl l i undef w:=by
 rw[if_pos hw];unfold dU;rw[hrun];exact⟨hJ,hR⟩
theorem Vt (h:i<m.m.fs.length):aD m i=m.m.fs[i]:=by unfold aD;rw[bJ,aN h];rfl
def ik (m:Ma) (p:Nat) (n:Int):Option Page:=
 if (aF m p n).k=1 then (if (gL m (aF m p n).n).f<0 then some (gL m (aF m p n).n).p else none)
 else if (aF m p n).k=2 then some (dP m.sw (aF m p n).n) else none
theorem GQ (h:Rt m) (hg:dQ m p n=some g):iO m p n=match ik m p n with
  | some P=>(P,true,0)
  | none=>if g.fi<0 then (zPg,false,0) else if (m.st.fs.length:Int)≤g.fi∨nZ m.st g.fi g.pg=true then (zPg,false,9) else (aR m g.fi g.pg,false,0):=by
 rw[iL hg];unfold uo ik
 by_cases k1:(aF m p n).k=1
 ·rw[if_pos k1,if_pos k1];obtain⟨f,e1,hf,hr,hp,o,g0,e,a⟩:=gy h k1;rw[hg] at e;cases e;rw[e1,vW]
  by_cases h0:(aD m f).f<0
  ·rw[if_pos h0,decide_eq_true h0]
  rw[if_neg h0,decide_eq_false h0];obtain⟨c,i,l⟩:=h.fc f hf (by omega);have b:=h.ca.fr c i;have d:=h.ca.file c i;rw[l,bG] at b;obtain⟨a1,a2⟩:=a.1 (by omega);rw[←b.2.1,←b.2.2,a1,a2] at d;have j:aR m g.fi g.pg=(aD m f).p:=by rw[←a1,←a2,b.2.1,b.2.2,eG h.ca i,l,bG]
  simp only;rw[if_neg (by have:=d.1;omega),if_neg (oF h.pt.st d),j]
 rw[if_neg k1,if_neg k1]
 by_cases k2:(aF m p n).k=2
 ·rw[if_pos k2,if_pos k2];obtain⟨g0,e,a⟩:=h.en p n (by rw[k2];decide);have h1:=(a.sw k2).1;have h2:=(cz _).1 (jL h.pt p n);simp only[GD,true_and];rw[iV];have:=h.pt.swl;exact⟨h.pt.sw,by omega,by omega⟩
 ·rw[if_neg k2,if_neg k2]
theorem qE (h:Rt m) (p:Nat) (n:Int):ik m p n=if (iO m p n).2.1=true then some (iO m p n).1 else none:=by
 cases hg:dQ m p n with
 | none=>
  rw[oM hg];have h0:(aF m p n).k=0:=by
   by_cases e:(aF m p n).k=0
   ·exact e
   obtain⟨g,a,_⟩:=h.en p n e;rw[hg] at a; cases a
  unfold ik;rw[h0];rfl
 | some g=>
  rw[GQ h hg];cases ik m p n with
  | some P=>rfl
  | none=>
   simp only;split
   ·rfl
   ·split<;>rfl
theorem TW (he:alike (aF m p n) (aF m' p n)) (hs:(aF m p n).k=2→dP m'.sw (aF m p n).n=dP m.sw (aF m p n).n) (hf:(aF m p n).k=1→(gL m' (aF m p n).n).f=(gL m (aF m p n).n).f∧((gL m (aF m p n).n).f<0→(gL m' (aF m p n).n).p=(gL m (aF m p n).n).p)):ik m' p n=ik m p n:=by
 unfold ik;rw[he.1,he.2]
 by_cases k1:(aF m p n).k=1
 ·rw[if_pos k1,if_pos k1,(hf k1).1]
  by_cases h0:(gL m (aF m p n).n).f<0
  ·rw[if_pos h0,if_pos h0,(hf k1).2 h0]
  ·rw[if_neg h0,if_neg h0]
 rw[if_neg k1,if_neg k1]
 by_cases k2:(aF m p n).k=2
 ·rw[if_pos k2,if_pos k2,hs k2]
 ·rw[if_neg k2,if_neg k2]
instance (s:St) (f i:Int):Decidable (ni s f i):=by unfold ni;infer_instance
theorem RX (h:Rt m) (hc:Co m) (f i:Int):dm (aR m f i) ((aI m.st f).n-i*8)=aR m f i:=by
 rcases kL m f i with ⟨c,_,hcm,hcf,hci⟩|⟨_,hno⟩
 ·subst hcf;subst hci;rw[eG h.ca hcm];exact hc.tail c hcm
 rw[eu hno];exact Fs m f i
structure VW (m M:Ma) (f i:Int) (P:Page):Prop where
 rt:Rt M
 co:Co M
 sk:fE m M
 len:M.m.fs.length=m.m.fs.length
 sl:M.sl=m.sl
 st:M.st=m.st
 ca:M.ca=m.ca
 own:∀p n,ik M p n=ik m p n
 con:∀g j,aR M g j=if g=f∧j=i then P else aR m g j
theorem UD (h:Rt m) (hc:Co m) {f i:Int} {g:Nat} {P:Page} (hcm : ⟨f,i,(g:Int)⟩∈m.ca) (hP:dm P ((aI m.st f).n-i*8)=P):VW m (setFr m g (jP (aD m g) P true)) f i P:=by
 have q:=h.ca.lt _ hcm;have hf:=h.ca.fr _ hcm;have l:ni m.st f i:=h.ca.file _ hcm;simp only[bG] at hf q;have hg:g<m.m.fs.length:=by omega
 obtain⟨a1,a2⟩:=QH (P:=P) (d:=true) h hc hg (by omega) (fun c j e=>by have:c=⟨f,i,(g:Int)⟩:=h.ca.uniq j hcm (by have:=h.ca.lt c j; show c.k=(g:Int);omega);subst this;exact⟨hP,.inl rfl⟩) (fun _=>by have:=l.1;omega);have o:∀x,aD (setFr m g (jP (aD m g) P true)) x=if x=g then jP (aD m g) P true else aD m x:=fun x=>fK hg x;refine⟨a1,a2,fE.of rfl,dw,rfl,rfl,rfl,fun p n=>TW ⟨rfl,rfl⟩ (fun _=>rfl) (fun _ => ?_),fun a b => ?_⟩
 ·show (aD (setFr m g (jP (aD m g) P true)) (aF m p n).n.toNat).f=(aD m (aF m p n).n.toNat).f∧((aD m (aF m p n).n.toNat).f<0→(aD (setFr m g (jP (aD m g) P true)) (aF m p n).n.toNat).p=(aD m (aF m p n).n.toNat).p);rw[o]
  by_cases e:(aF m p n).n.toNat=g
  ·rw[if_pos e,e];exact⟨rfl,fun h0=>by have:=l.1;omega⟩
  ·rw[if_neg e];exact⟨rfl,fun _=>rfl⟩
 rcases kL m a b with ⟨c,_,j,hcf,hci⟩|⟨_,hno⟩
 ·subst hcf;subst hci;rw[eG (m:=setFr m g (jP (aD m g) P true)) a1.ca j,eG h.ca j,o]
  by_cases e:c.f=f∧c.i=i
  ·have:=srt_eq h.ca.srt j hcm e.1 e.2;subst this;rw[if_pos e];simp only[bG,if_true];rfl
  rw[if_neg e,if_neg];intro e';have:=h.ca.uniq j hcm (by have:=h.ca.lt c j; show c.k=(g:Int);omega);subst this;exact e ⟨rfl,rfl⟩
 rw[eu (m:=setFr m g (jP (aD m g) P true)) hno,eu hno,if_neg fun e=>hno _ hcm ⟨e.1.symm,e.2.symm⟩];rfl
theorem LP {F:Value→World→Prop} (hw:Region.wanted o (iH ρ ops)=true) (ty:TypeId) (x y:Operand) (ho:o.op = .store ty x y)
 (b i:Nat) (v:Value) (cells:List Value) (hx:ρ x = .pointer (some ⟨b,i,none⟩)) (hy:ρ y=v) (hc:v.cells.toList=cells) (cur:Array Value) (T:TypeId) (hg:aJ w b cur T)
 (hfit:i+cells.length≤cur.size) (hi:(P.info? ty).map (·.size)=some cells.length) (h1:∀u∈cells,u.oneCell' = true)
 (h:∀w',aJ w' b (dE cur i cells) T→w.grownBy w' (some b)→F undef w'):Region.wanted o (iH ρ ops)=true∧dU P o ρ w F:=by
 refine⟨hw,?_⟩;unfold dU;rw[lL ty x y ho b i v cells hx hy hc cur T hg hfit hi h1];exact h _ (hg.setCells _ _) (aB _ _ _ _)
theorem areaT:143≠192∧143≠132∧143≠124∧143≠114:=by decide
theorem BZ (k:Kp) (p:Page) (f i:Int):(eP k p f i).1.m.sp.length=k.m.sp.length:=(qD.took k p f i).sp
theorem Ru (H:MH) (e n:Int) (p f:Nat) (A:Ar) (ga:Nat) (B b:Nat) (w:World) (h:iJ w B b H e) (hA:aJ w ga (kQ A) 143) (hp:p<H.sp.length) (hf:f<H.m.fs.length) (hz:H.sp.length≤1000) (hz2:H.ca.length≤1000) (hz3:H.m.fs.length≤1000) :
  Calls Tryz.prog 166 #[.pointer (some ⟨b,0,none⟩),.int .i64 p,.int .i64 n,.int .i64 f,.pointer (some ⟨ga,0,none⟩)] w fun r w'=>r = .returned (.int .i64 (ve ⟨H.ma,e⟩ p n f A).2)∧KR w B b H w' (ve ⟨H.ma,e⟩ p n f A).1:=by
 obtain⟨g,off,cur,hj,hr,hi,hh,hg,hn,hm,ha⟩:=h.frame hf;generalize hx:aD H.ma f=x at *
 have v:=ae (show gL H.ma f=x from hx);clear hx ha hn;have hc:=h.blk.cell;unfold lG at hc;rw[hj] at hc;have hl:(f:Int)<(H.m.fs.length:Int):=by omega
 go_enter func166,ntmps166
 go_wp2_with (first | (refine aA _ _ rfl g (off+f*13) rfl rfl _ hg _ underlying132 rfl frame_size ?_) | (refine aW rfl _ _ _ rfl (yG x) rfl rfl rfl frame_size (uW x) ?_))
 intro w1 t l;have h1:=h.below t;have s1:=(KS.refl w b H).below t;have z:=hA.ext t;have u:¬kb b H w.heap.size:=fun hk=>by obtain⟨cs,T,hb,_⟩:=h.kb_T hk;have:=hb.lt;omega
 clear hc hg hi hh t hr hm hj h hA hl;have s:=l.cell;unfold yG at s;have q:=z.cell;unfold kQ at q;have i:Hid (A.sh=true∨x.f<0∧x.r=1→ve ⟨H.ma,e⟩ p n f A=(cZ ⟨H.ma,e⟩ p n ⟨1,f,true⟩,(f:Int))):=ae (fun hc=>by unfold ve;simp only[show gL (Kp.m ⟨H.ma,e⟩) f=x from v.out];exact if_pos hc);have j:Hid (¬(A.sh=true∨x.f<0∧x.r=1)→ve ⟨H.ma,e⟩ p n f A=if (eP (iG ⟨H.ma,e⟩ p n) x.p (-1) 0).2<0 then ((eP (iG ⟨H.ma,e⟩ p n) x.p (-1) 0).1,-1) else (cZ (eP (iG ⟨H.ma,e⟩ p n) x.p (-1) 0).1 p n ⟨1,(eP (iG ⟨H.ma,e⟩ p n) x.p (-1) 0).2,true⟩,(eP (iG ⟨H.ma,e⟩ p n) x.p (-1) 0).2)):=ae (fun hc=>by unfold ve;simp only[show gL (Kp.m ⟨H.ma,e⟩) f=x from v.out];exact if_neg hc);clear v;cases hsh:A.sh with
 | true=>
  have hq:=ae (i.out (.inl hsh));rw[hsh] at q;clear i j hsh
  go_wp2_with fail
  refine (fT H e n p ⟨1,f,true⟩ B b _ h1 hp).mono ?_;rintro r w6 ⟨rfl,d⟩;go_wp2;go_ret;rw[hq.out];exact⟨rfl,KR.trans s1 d⟩
 | false=>
  rw[hsh] at q
  by_cases hxf:x.f<0
  ·by_cases hxr:x.r=1
   ·have hq:=ae (i.out (.inr ⟨hxf,hxr⟩));rw[hxr] at s;clear i j hsh
    go_wp2_with fail
    refine (fT H e n p ⟨1,f,true⟩ B b _ h1 hp).mono ?_;rintro r w6 ⟨rfl,d⟩;go_wp2;go_ret;rw[hq.out];exact⟨rfl,KR.trans s1 d⟩
   have hq:=ae (j.out (fun hc=>hc.elim (fun h'=>by rw[hsh] at h'; cases h') (fun h'=>hxr h'.2)));clear i j hsh
   go_wp2_with fail
   refine (xu H e n p B b _ h1 hp).mono ?_;rintro r w2 ⟨rfl,H2,e2,k2,s2,q2⟩;have k:=s2.blkN l u;have s02:=s1.trans s2;have hd:=jv.drop ⟨H.ma,e⟩ p n;have q2':=ae q2;rw[←q2] at hd;have a:H2.sp.length=H.sp.length∧H2.ca.length=H.ca.length∧H2.m.fs.length=H.m.fs.length:=⟨by have:=hd.sp;simp only[pI] at this;exact this,by rw[show H2.ca=H.ca from hd.ca],hd.fs⟩;clear hd q2 s1 s2 h1 l s q z
   go_wp2_with (refine aA _ _ rfl w.heap.size 0 rfl rfl (gZ x.p).toList (bW k 0 8) _ underlying100 rfl psize ?_)
   refine (qN H2 e2 (-1) 0 x.p B b _ k2 (by rw[a.1];exact hz) (by rw[a.2.1];exact hz2) (by rw[a.2.2];exact hz3)).mono ?_;rintro r w3 ⟨rfl,H3,e3,k3,s3,q3⟩;have s03:=s02.trans s3;have o:H3.sp.length=H.sp.length:=by have:=BZ ⟨H2.ma,e2⟩ x.p (-1) 0;rw[←q3] at this;simp only[pI] at this;rw[this,a.1]
   rw[q2'.out] at q3 ⊢;have q3':=ae q3;have y:p<H3.sp.length:=by rw[o];exact hp
   clear q2' q3 s02 s3 k2 k a o;generalize hK:(eP (iG ⟨H.ma,e⟩ p n) x.p (-1) 0).2=K
   by_cases h0:K<0
   ·have c:Hid (ve ⟨H.ma,e⟩ p n f A=(⟨H3.ma,e3⟩,-1)):=ae (by rw[hq.out,hK,if_pos h0,q3'.out]);go_wp2;go_ret;rw[c.out];exact⟨rfl,_,_,k3,s03,rfl⟩
   have c:Hid (ve ⟨H.ma,e⟩ p n f A=(cZ ⟨H3.ma,e3⟩ p n ⟨1,K,true⟩,K)):=ae (by rw[hq.out,hK,if_neg h0,q3'.out]);clear hK
   go_wp2_with fail
   refine (fT H3 e3 n p ⟨1,K,true⟩ B b _ k3 y).mono ?_;rintro r w6 ⟨rfl,d⟩;go_wp2;go_ret;rw[c.out];exact⟨rfl,KR.trans s03 d⟩
  have hq:=ae (j.out (fun hc=>hc.elim (fun h'=>by rw[hsh] at h'; cases h') (fun h'=>hxf h'.1)));clear i j hsh
  go_wp2_with fail
  refine (xu H e n p B b _ h1 hp).mono ?_;rintro r w2 ⟨rfl,H2,e2,k2,s2,q2⟩;have k:=s2.blkN l u;have s02:=s1.trans s2;have hd:=jv.drop ⟨H.ma,e⟩ p n;have q2':=ae q2;rw[←q2] at hd;have a:H2.sp.length=H.sp.length∧H2.ca.length=H.ca.length∧H2.m.fs.length=H.m.fs.length:=⟨by have:=hd.sp;simp only[pI] at this;exact this,by rw[show H2.ca=H.ca from hd.ca],hd.fs⟩;clear hd q2 s1 s2 h1 l s q z
  go_wp2_with (refine aA _ _ rfl w.heap.size 0 rfl rfl (gZ x.p).toList (bW k 0 8) _ underlying100 rfl psize ?_)
  refine (qN H2 e2 (-1) 0 x.p B b _ k2 (by rw[a.1];exact hz) (by rw[a.2.1];exact hz2) (by rw[a.2.2];exact hz3)).mono ?_;rintro r w3 ⟨rfl,H3,e3,k3,s3,q3⟩;have s03:=s02.trans s3;have o:H3.sp.length=H.sp.length:=by have:=BZ ⟨H2.ma,e2⟩ x.p (-1) 0;rw[←q3] at this;simp only[pI] at this;rw[this,a.1]
  rw[q2'.out] at q3 ⊢;have q3':=ae q3;have y:p<H3.sp.length:=by rw[o];exact hp
  clear q2' q3 s02 s3 k2 k a o;generalize hK:(eP (iG ⟨H.ma,e⟩ p n) x.p (-1) 0).2=K
  by_cases h0:K<0
  ·have c:Hid (ve ⟨H.ma,e⟩ p n f A=(⟨H3.ma,e3⟩,-1)):=ae (by rw[hq.out,hK,if_pos h0,q3'.out]);go_wp2;go_ret;rw[c.out];exact⟨rfl,_,_,k3,s03,rfl⟩
  have c:Hid (ve ⟨H.ma,e⟩ p n f A=(cZ ⟨H3.ma,e3⟩ p n ⟨1,K,true⟩,K)):=ae (by rw[hq.out,hK,if_neg h0,q3'.out]);clear hK
  go_wp2_with fail
  refine (fT H3 e3 n p ⟨1,K,true⟩ B b _ k3 y).mono ?_;rintro r w6 ⟨rfl,d⟩;go_wp2;go_ret;rw[c.out];exact⟨rfl,KR.trans s03 d⟩
end Go.Proofs.YtpaeabelhnnbiaaGreat