import Derived.Test.YtkjobhcnlppcnaaY2
import Derived.BigRegion
import Derived.BigQuiet
set_option linter.unusedSimpArgs false
set_option linter.unusedVariables false
set_option maxHeartbeats 4000000
set_option maxRecDepth 100000
namespace Go.Proofs.Ytkjobhcnlppcnaa
open Go.RowKit Go.Maps Pw
theorem elemR {α:Type} {enc:α → List Value} {sz:Nat} (hsz:∀ x,(enc x).length = sz) (hp:0 < sz) {w:World} {a:Option Addr} {l:List α} (h:RdV w a (l.flatMap enc)) (k:Nat) (hk:k < l.length) :
  ∃ b off,a = some ⟨b,off,none⟩ ∧ RdV w (some ⟨b,off + k * sz,none⟩) (enc l[k]):=by
 obtain ⟨b,off,ha,hc⟩:=h.elem hsz hp k hk
 exact ⟨b,off,ha,fun j u hj=>⟨b,off + k * sz,rfl,hc j u hj⟩⟩
theorem blk_part {w:World} {b:Nat} {cs:Array Value} {T:TypeId} (h:Blk w b cs T) (o n:Nat):RdV w (some ⟨b,o,none⟩) ((cs.toList.drop o).take n):=by
 intro i u hi
 refine ⟨b,o,rfl,?_⟩
 rw [h.cell,← Array.getElem?_toList]
 rw [List.getElem?_take] at hi
 split at hi
 ·rw [List.getElem?_drop] at hi; exact hi
 ·cases hi
def kpC (H:MH) (e:Int):Array Value:=#[.slice H.af H.m.fs.length H.cf,.int .i64 H.m.hand,.slice H.asl H.sl.length H.csl,.slice H.wb H.sw.blocks.length H.cwb,.slice H.wq H.sw.queue.length H.cwq,
 .slice H.db H.dk.blocks.length H.cdb,.slice H.dq H.dk.queue.length H.cdq,.slice H.ai H.fi.length H.ci,.int .i64 H.ct,.slice H.ac H.ca.length H.cc,.slice H.ap H.sp.length H.cp,.int .i64 e]
def oB (a:Option Addr):Option Nat:=(Value.slice a 0 0).ownBlock
theorem oB_eq (a:Option Addr) (n c:Nat):(Value.slice a n c).ownBlock = oB a:=by cases a <;> rfl
structure KpO (w:World) (B b:Nat) (H:MH) (e:Int):Prop where
 blk:Blk w b (kpC H e) 143
 ge:B ≤ b
 ma:MaO w B H
 tz:∀ p ∈ H.sp,TbSz p.tb
def kb (b:Nat) (H:MH) (x:Nat):Prop:=x = b ∨ oB H.af = some x ∨ oB H.ac = some x ∨ oB H.ap = some x
structure KS (w0:World) (b:Nat) (H0:MH) (w:World) (H:MH):Prop where
 os:w.os = w0.os
 tape:w.tape = w0.tape
 output:w.output = w0.output
 size:w0.heap.size ≤ w.heap.size
 keep:∀ x,x < w0.heap.size → ¬ kb b H0 x → w.heap[x]? = w0.heap[x]?
 sn:∀ x,kb b H x → kb b H0 x ∨ w0.heap.size ≤ x
theorem KS.refl (w:World) (b:Nat) (H:MH):KS w b H w H:=⟨rfl,rfl,rfl,Nat.le_refl _,fun _ _ _=>rfl,fun _ h => .inl h⟩
theorem KS.trans {w0 w1 w2:World} {b:Nat} {H0 H1 H2:MH} (h:KS w0 b H0 w1 H1) (k:KS w1 b H1 w2 H2):KS w0 b H0 w2 H2:=
 ⟨k.os.trans h.os,k.tape.trans h.tape,k.output.trans h.output,Nat.le_trans h.size k.size,fun x hx hn=>(k.keep x (Nat.lt_of_lt_of_le hx h.size) (fun hk=>(h.sn x hk).elim hn (fun hh=>absurd hx (Nat.not_lt.2 hh)))).trans (h.keep x hx hn),
  fun x hx=>(k.sn x hx).elim (h.sn x) (fun hh => .inr (Nat.le_trans h.size hh))⟩
theorem KS.below {w0 w w' : World} {b:Nat} {H0 H:MH} (h:KS w0 b H0 w H) (hb:Below w.heap.size w w'):KS w0 b H0 w' H:=
 ⟨hb.os.trans h.os,hb.tape.trans h.tape,hb.output.trans h.output,Nat.le_trans h.size hb.size,fun x hx hn=>(hb.block x (Nat.lt_of_lt_of_le hx h.size)).trans (h.keep x hx hn),h.sn⟩
theorem KS.put {w0 w w' : World} {b y:Nat} {H0 H H' : MH} (h:KS w0 b H0 w H) (hg:w.grownBy w' (some y)) (hy:kb b H y) (hn:∀ x,kb b H' x → kb b H x ∨ w0.heap.size ≤ x):KS w0 b H0 w' H':=
 ⟨hg.os.trans h.os,hg.tape.trans h.tape,hg.output.trans h.output,Nat.le_trans h.size hg.size,fun x hx hnx=>(hg.block x (Nat.lt_of_lt_of_le hx h.size) (fun e=>by
  have e' : x = y:=Option.some.inj e
  rw [← e'] at hy
  exact (h.sn x hy).elim hnx (fun hh=>absurd hx (Nat.not_lt.2 hh)))).trans (h.keep x hx hnx),fun x hx=>(hn x hx).elim (h.sn x) .inr⟩
theorem KpO.lt {w:World} {B b:Nat} {H:MH} {e:Int} (h:KpO w B b H e):b < w.heap.size:=h.blk.lt
theorem KpO.bs {w:World} {B b:Nat} {H:MH} {e:Int} (h:KpO w B b H e):B ≤ w.heap.size:=Nat.le_trans h.ge (Nat.le_of_lt h.lt)
theorem KpO.below {w w' : World} {B b:Nat} {H:MH} {e:Int} (h:KpO w B b H e) (hb:Below w.heap.size w w'):KpO w' B b H e:=⟨h.blk.ext hb,h.ge,h.ma.below hb,h.tz⟩
theorem own_oB {w:World} {B:Nat} {e:TypeId} {sz n c:Nat} {a:Option Addr} {xs:List Value} (h:Own w B e sz (.slice a n c) n xs) {x:Nat} (hx:oB a = some x):B ≤ x ∧ ∃ cs,Blk w x cs e:=by
 rw [← oB_eq a n c] at hx
 exact ⟨h.ge x hx,own_blk h x hx⟩
theorem KpO.kb_ge {w:World} {B b:Nat} {H:MH} {e:Int} (h:KpO w B b H e) {x:Nat} (hx:kb b H x):B ≤ x:=by
 rcases hx with hx | hx | hx | hx
 ·rw [hx]; exact h.ge
 ·exact (own_oB h.ma.fr hx).1
 ·exact (own_oB h.ma.ca hx).1
 ·exact (own_oB h.ma.sp hx).1
theorem KpO.kb_T {w:World} {B b:Nat} {H:MH} {e:Int} (h:KpO w B b H e) {x:Nat} (hx:kb b H x):∃ cs T,Blk w x cs T ∧ (T = 143 ∨ T = 59 ∨ T = 85 ∨ T = 65):=by
 rcases hx with hx | hx | hx | hx
 ·rw [hx]; exact ⟨_,_,h.blk,.inl rfl⟩
 ·obtain ⟨cs,hb⟩:=(own_oB h.ma.fr hx).2; exact ⟨cs,_,hb,.inr (.inl rfl)⟩
 ·obtain ⟨cs,hb⟩:=(own_oB h.ma.ca hx).2; exact ⟨cs,_,hb,.inr (.inr (.inl rfl))⟩
 ·obtain ⟨cs,hb⟩:=(own_oB h.ma.sp hx).2; exact ⟨cs,_,hb,.inr (.inr (.inr rfl))⟩
theorem KS.to {w0 w:World} {B B0 b:Nat} {H0 H:MH} {e:Int} (h:KpO w0 B b H0 e) (hs:KS w0 b H0 w H) (hB:B0 ≤ B):Below B0 w0 w:=
 ⟨hs.os,hs.tape,hs.output,hs.size,fun x hx=>hs.keep x (by have:=h.bs; omega) (fun hk=>by have:=h.kb_ge hk; omega)⟩
theorem KS.blk {w0 w:World} {B b x:Nat} {H0 H:MH} {e:Int} {cs:Array Value} {T:TypeId} (hs:KS w0 b H0 w H) (h:KpO w0 B b H0 e) (hk:Blk w0 x cs T) (hT:T ≠ 143 ∧ T ≠ 59 ∧ T ≠ 85 ∧ T ≠ 65):Blk w x cs T:=by
 refine (hs.keep x hk.lt fun hx => ?_).trans hk
 obtain ⟨cs',T',hb,h4⟩:=h.kb_T hx
 unfold Blk at hk hb
 rw [hk] at hb
 simp only [Option.some.injEq,Obj.cells.injEq] at hb
 obtain ⟨t1,t2,t3,t4⟩:=hT
 rcases h4 with e | e | e | e
 ·exact t1 (hb.2.1.trans e)
 ·exact t2 (hb.2.1.trans e)
 ·exact t3 (hb.2.1.trans e)
 ·exact t4 (hb.2.1.trans e)
theorem KS.own {w0 w:World} {B B' b:Nat} {H0 H:MH} {e:Int} {t:TypeId} {sz n:Nat} {v:Value} {xs:List Value} (hs:KS w0 b H0 w H) (h:KpO w0 B b H0 e) (ho:Own w0 B' t sz v n xs) (hT:t ≠ 143 ∧ t ≠ 59 ∧ t ≠ 85 ∧ t ≠ 65):Own w B' t sz v n xs:=
 ⟨ho.1,ho.2.imp id fun ⟨g,off,cap,cur,hv,hB,hk,r⟩=>⟨g,off,cap,cur,hv,hB,hs.blk h hk hT,r⟩⟩
theorem MaO.keepK {w w' : World} {B b:Nat} {H:MH} {e:Int} (h:KpO w B b H e) (hg:w.grownBy w' (some b)):MaO w' B H:=h.ma.keep h.blk (by decide) hg
theorem KpO.setM {w w' : World} {B b:Nat} {H:MH} {e:Int} (h:KpO w B b H e) {a:Option Addr} {c:Nat} {m:Mem} (ho:Own w B 59 13 (.slice a m.fs.length c) m.fs.length (m.fs.flatMap frL)) (hb:Blk w' b (putAt (kpC H e) 0 [.slice a m.fs.length c,.int .i64 m.hand]) 143) (hg:w.grownBy w' (some b)) :
  KpO w' B b { H with af:=a,cf:=c,m:=m } e:=
 ⟨hb,h.ge,{ MaO.keepK h hg with fr:=own_keep ho h.blk (by decide) hg },h.tz⟩
theorem KpO.setL {w w' : World} {B b:Nat} {H:MH} {e:Int} (h:KpO w B b H e) {a:Option Addr} {c:Nat} {l:List Int} (ho:Own w B 3 1 (.slice a l.length c) l.length (l.map inV)) (hb:Blk w' b (putAt (kpC H e) 2 [.slice a l.length c]) 143) (hg:w.grownBy w' (some b)) :
  KpO w' B b { H with asl:=a,csl:=c,sl:=l } e:=
 ⟨hb,h.ge,{ MaO.keepK h hg with sl:=own_keep ho h.blk (by decide) hg },h.tz⟩
theorem KpO.setE {w w' : World} {B b:Nat} {H:MH} {e e' : Int} (h:KpO w B b H e) (hb:Blk w' b (putAt (kpC H e) 11 [.int .i64 e']) 143) (hg:w.grownBy w' (some b)):KpO w' B b H e':=
 ⟨hb,h.ge,MaO.keepK h hg,h.tz⟩
def KR (w:World) (B b:Nat) (H:MH) (w' : World) (k:Kp):Prop:=∃ H' e',KpO w' B b H' e' ∧ KS w b H w' H' ∧ Kp.mk H'.ma e' = k
theorem kb_same {b:Nat} {H H' : MH} (h1:H'.af = H.af) (h2:H'.ac = H.ac) (h3:H'.ap = H.ap) {x:Nat} (hx:kb b H' x):kb b H x:=by
 unfold kb at hx ⊢; rw [h1,h2,h3] at hx; exact hx
theorem KS.putB {w0 w w' : World} {b:Nat} {H0 H H' : MH} (h:KS w0 b H0 w H) (hg:w.grownBy w' (some b)) (h1:H'.af = H.af) (h2:H'.ac = H.ac) (h3:H'.ap = H.ap):KS w0 b H0 w' H':=
 h.put hg (.inl rfl) fun x hx => .inl (kb_same h1 h2 h3 hx)
theorem KS.putF {w0 w w' : World} {B' b:Nat} {H0 H H' : MH} {t:TypeId} {sz n c:Nat} {xs:List Value} (h:KS w0 b H0 w H) (hg:w.grownBy w' (some b)) (ho:Own w B' t sz (.slice H'.af n c) n xs) (hB:w0.heap.size ≤ B') (h2:H'.ac = H.ac) (h3:H'.ap = H.ap):KS w0 b H0 w' H':=
 h.put hg (.inl rfl) fun x hx=>by
  rcases hx with hx | hx | hx | hx
  ·exact .inl (.inl hx)
  ·exact .inr (Nat.le_trans hB (own_oB ho hx).1)
  ·exact .inl (.inr (.inr (.inl (by rw [← h2]; exact hx))))
  ·exact .inl (.inr (.inr (.inr (by rw [← h3]; exact hx))))
theorem below_then {w w1 w2:World} {row:Option Nat} (hb:Below w.heap.size w w1) (hg:w1.grownBy w2 row):w.grownBy w2 row:=
 ⟨hg.os.trans hb.os,hg.tape.trans hb.tape,hg.output.trans hb.output,Nat.le_trans hb.size hg.size,fun k hk hn=>(hg.block k (Nat.lt_of_lt_of_le hk hb.size) hn).trans (hb.block k hk)⟩
def boxY (k B:Nat) (T:TypeId) (R:Rel):RelY:=⟨fun y w => ∃ g cc,y k = .pointer (some ⟨g,0,none⟩) ∧ B ≤ g ∧ Blk w g cc T ∧ R.r (.agg cc) w,[k],
 fun y w w' hb ⟨g,cc,h1,h2,h3,h4⟩=>⟨g,cc,h1,h2,h3.ext hb,R.st _ _ _ hb h4⟩,fun y y' w h ⟨g,cc,h1,h2⟩=>⟨g,cc,by rw [← h k (List.mem_singleton.2 rfl)]; exact h1,h2⟩⟩
theorem one_toList {cs:Array Value} (h:cs.all (·.oneCell') = true):∀ u ∈ cs.toList,u.oneCell' = true:=by
 rw [← Array.all_toList,List.all_eq_true] at h
 exact h
theorem spH (H:MH):H.ma.sp.length = H.sp.length:=List.length_map _
theorem mustE_zero (e:Int):mustE e 0 = e:=by unfold mustE; split <;> simp_all
theorem mustE_no {e:Int} (h:e ≠ 0) (er:Int):mustE e er = e:=by unfold mustE; rw [if_neg h]
theorem KpO.rdM {w:World} {B b:Nat} {H:MH} {e:Int} (h:KpO w B b H e):RdV w (some ⟨b,0,none⟩) [.slice H.af H.m.fs.length H.cf,.int .i64 H.m.hand]:=blk_part h.blk 0 2
theorem must_any (H:MH) (e er:Int) (B b:Nat) (w:World) (h:KpO w B b H e) :
  Calls Try.prog 120 #[.pointer (some ⟨b,0,none⟩),.int .i64 er] w fun r w'=>r = .returned (.tuple #[]) ∧ KpO w' B b H (mustE e er) ∧ w.grownBy w' (some b):=by
 have hc:=h.blk.cell
 have hf:=h.blk.free
 unfold kpC at hc
 go_enter Try.func120,Try.ntmps120
 by_cases h0:e = 0
 ·have hg:=grownBy_setCells w b 11 [.int .i64 er]
  have hb:=h.blk.setCells [.int .i64 er] 11
  have hfin:Hid (mustE e er = er):=Lib.hid (by unfold mustE; rw [if_pos h0])
  have h':=Lib.hid h
  clear h
  go_wp2
  simp [bodyPost,results,go_sem,Try.results120]
  rw [hfin.out]
  exact ⟨h'.out.setE hb hg,hg⟩
 ·go_wp2
  simp [bodyPost,results,go_sem,Try.results120]
  rw [mustE_no h0]
  exact ⟨h,World.grownBy.refl _ _⟩
theorem khold_sp (H:MH) (e f n:Int) (B b:Nat) (w:World) (h:KpO w B b H e) :
  Calls Try.prog 103 #[.pointer (some ⟨b,0,none⟩),.int .i64 f,.int .i64 n] w fun r w'=>r = .returned (.tuple #[]) ∧ ∃ H' e',KpO w' B b H' e' ∧ KS w b H w' H' ∧ Kp.mk H'.ma e' = fholdK ⟨H.ma,e⟩ f n ∧ H'.sp = H.sp:=by
 go_enter Try.func103,Try.ntmps103
 go_wp2_with (refine wpList_ldg _ _ rfl b 0 rfl rfl _ h.rdM _ Try.underlying27 rfl mem_size ?_)
 refine (mhold_any H.m f n _ _ _ h.ma.rd.fr).mono ?_
 rintro r w1 ⟨vb,rfl,ho,hb1⟩
 obtain ⟨a1,c1,rfl,_⟩:=mown_rd ho
 have hBs:=Lib.hid h.bs
 have h1:=h.below hb1
 have s1:=(KS.refl w b H).below hb1
 go_wp2_with (refine wpList_stn rfl _ _ _ rfl #[.slice a1 (holdM H.m f n).fs.length c1,.int .i64 (holdM H.m f n).hand] rfl rfl rfl mem_size (mem_one _ _ _ _) ?_)
 intro w2 hb2 hx2
 have h2:=h1.below hb2
 have s2:=s1.below hb2
 have ho2:=ho.below hb2
 clear h1 s1 ho hb2
 go_wp2_with fail
 refine (must_any _ e (holdE H.m f n) _ _ _ h2).mono ?_
 rintro r w3 ⟨rfl,h3,hg3⟩
 have s3:=s2.putB hg3 rfl rfl rfl
 have ho3:=own_keep ho2 h2.blk (by decide) hg3
 have hx3:=blk_keep hx2 h2.blk (by decide) hg3
 clear h2 s2 ho2 hx2 hg3
 by_cases h0:holdE H.m f n = 0
 ·rw [h0,mustE_zero] at h3
  have hq:Hid (fholdK ⟨H.ma,e⟩ f n = ⟨{ H.ma with m:=holdM H.m f n },e⟩):=Lib.hid (by unfold fholdK; exact if_pos h0)
  have hx:=hx3.cell
  clear h
  rw [h0]
  go_wp2_with (first | (refine wpList_ldg _ _ rfl _ 0 rfl rfl [.slice a1 (holdM H.m f n).fs.length c1,.int .i64 (holdM H.m f n).hand] (blk_part hx3 0 2) _ Try.underlying27 rfl mem_size ?_) | (refine wpList_st rfl _ _ _ rfl b 0 _ rfl rfl _ _ h3.blk (by show 0 + 2 ≤ 12; decide) mem_size (mem_one _ _ _ _) ?_))
  intro w4 hb4 hg4
  have h4:=h3.setM (ho3.mono hBs.out) hb4 hg4
  go_wp2
  simp [bodyPost,results,go_sem,Try.results103]
  rw [hq.out]
  exact ⟨_,_,h4,s3.putF hg4 ho3 (Nat.le_refl _) rfl rfl,rfl,rfl⟩
 ·have hq:Hid (fholdK ⟨H.ma,e⟩ f n = ⟨H.ma,mustE e (holdE H.m f n)⟩):=Lib.hid (by unfold fholdK; exact if_neg h0)
  go_wp2
  simp [bodyPost,results,go_sem,Try.results103]
  rw [hq.out]
  exact ⟨_,_,h3,s3,rfl,rfl⟩
theorem khold_any (H:MH) (e f n:Int) (B b:Nat) (w:World) (h:KpO w B b H e) :
  Calls Try.prog 103 #[.pointer (some ⟨b,0,none⟩),.int .i64 f,.int .i64 n] w fun r w'=>r = .returned (.tuple #[]) ∧ KR w B b H w' (fholdK ⟨H.ma,e⟩ f n):=
 (khold_sp H e f n B b w h).mono fun r w' ⟨h1,H',e',h2,h3,h4,_⟩=>⟨h1,H',e',h2,h3,h4⟩
theorem run_idx {P:Program} {ρ:Operand → Value} {o:Oper} {w:World} {t e:TypeId} {x y:Operand} {b off n c i sz:Nat} {k:IntKind} (ho:o.op = .indexAddr t x y) (hx:ρ x = .slice (some ⟨b,off,none⟩) n c) (hy:ρ y = .int k (i:Int)) (hi:i < n)
  (hu:P.underlying t = some (.slice e)) (hs:(P.info? e).map (·.size) = some sz):(execOp ρ o).run P w = .ok (.value (.pointer (some ⟨b,off + i * sz,none⟩))) w:=by
 obtain ⟨inf,hinf,hsz⟩:∃ inf,P.info? e = some inf ∧ inf.size = sz:=by
  cases h:P.info? e with
  | none=>rw [h] at hs; cases hs
  | some inf=>rw [h] at hs; exact ⟨inf,rfl,by simpa using hs⟩
 have hso:(Go.sizeOf e).run P w = .ok sz w:=by simp [Go.sizeOf,typeInfo,hinf,go_sem,hsz]
 simp [execOp,go_sem,ho,hx,hy,hu,hso,hi]
theorem rdv_part {w:World} {b o:Nat} {vs:List Value} (h:RdV w (some ⟨b,o,none⟩) vs) (d n:Nat):RdV w (some ⟨b,o + d,none⟩) ((vs.drop d).take n):=by
 intro i u hi
 rw [List.getElem?_take] at hi
 split at hi
 ·rw [List.getElem?_drop] at hi
  obtain ⟨b',o',e,hc⟩:=h (d + i) u hi
  cases e
  exact ⟨_,_,rfl,by rw [Nat.add_assoc]; exact hc⟩
 ·cases hi
theorem putAt_skip {cur:Array Value} {o:Nat} {v:Value} (r:List Value) (h:cur[o]? = some v):putAt cur o (v :: r) = putAt cur (o + 1) r:=by
 have:cur.setIfInBounds o v = cur:=by
  apply Array.ext_getElem?
  intro i
  rw [Array.getElem?_setIfInBounds]
  by_cases e:o = i
  ·subst e
   rw [if_pos rfl,if_pos (Array.getElem?_eq_some_iff.1 h).1,h]
  ·rw [if_neg e]
 show putAt (cur.setIfInBounds o v) (o + 1) r = _
 rw [this]
theorem own_cells {w:World} {B:Nat} {e:TypeId} {sz n off c g:Nat} {xs:List Value} {cur:Array Value} (h:Own w B e sz (.slice (some ⟨g,off,none⟩) n c) n xs) (hb:Blk w g cur e):∀ j u,xs[j]? = some u → cur[off + j]? = some u:=by
 rcases h.2 with ⟨h1,_⟩ | ⟨g',off',cap',cur',hv,_,hk,_,_,_,ht⟩
 ·cases h1
 ·cases hv
  have:cur = cur':=by
   unfold Blk at hb hk
   rw [hb] at hk
   simpa using hk
  subst this
  exact ht
theorem KpO.setT {w:World} {B b:Nat} {H:MH} {e:Int} (h:KpO w B b H e) {p:Nat} {P:PS} (hP:H.sp[p]? = some P) :
  ∃ g off cur,H.ap = some ⟨g,off,none⟩ ∧ B ≤ g ∧ Blk w g cur 65 ∧ off + p * 10 + 2 + 8 ≤ cur.size ∧ RdV w (some ⟨g,off + p * 10,none⟩) (psL P) ∧
   ∀ (w' : World) (v:Vector Value 8) (t:Tb),TbO w B (tsC v) t → TbSz t → Blk w' g (putAt cur (off + p * 10 + 2) (tsC v).toList) 65 → w.grownBy w' (some g) → KpO w' B b { H with sp:=H.sp.set p { P with ts:=v,tb:=t } } e:=by
 have hp:=(List.getElem?_eq_some_iff.1 hP).1
 have hPe:=(List.getElem?_eq_some_iff.1 hP).2
 obtain ⟨g,off,cap,cur,hv,hB,hblk,hfit,hset⟩:=own_putn psL_len (by decide) rfl h.ma.sp p hp
 simp only [Value.slice.injEq] at hv
 obtain ⟨hap,_,hcp⟩:=hv
 have hsp:=h.ma.sp
 rw [hap] at hsp
 have hcell:=own_cells hsp hblk
 have hat:∀ j u,(psL P)[j]? = some u → cur[off + p * 10 + j]? = some u:=fun j u hj=>by
  rw [Nat.add_assoc]
  exact hcell _ _ (flat_get psL 10 psL_len H.sp p hp j u (by rw [hPe]; exact hj))
 refine ⟨g,off,cur,hap,hB,hblk,by omega,fun j u hj=>⟨g,_,rfl,by rw [hblk.cell]; exact hat j u hj⟩,fun w' v t ht htz hb hg => ?_⟩
 have e1:putAt cur (off + p * 10) (psL { P with ts:=v,tb:=t }) = putAt cur (off + p * 10 + 2) (tsC v).toList:=by
  show putAt cur (off + p * 10) (.bool P.lv :: .slice P.aa P.ar.length P.ac :: (tsC v).toList) = _
  rw [putAt_skip _ (by simpa using hat 0 _ rfl),putAt_skip _ (hat 1 _ rfl)]
 rw [← e1] at hb
 have hlen:(H.sp.set p { P with ts:=v,tb:=t }).length = H.sp.length:=List.length_set
 have hbk:b ≠ g:=fun e=>by
  have h1:=h.blk
  subst e
  unfold Blk at h1 hblk
  rw [h1] at hblk
  simp only [Option.some.injEq,Obj.cells.injEq] at hblk
  exact absurd hblk.2.1 (by decide)
 refine ⟨?_,h.ge,⟨own_keep h.ma.fr hblk (by decide) hg,own_keep h.ma.sl hblk (by decide) hg,h.ma.sw.keep hblk (by decide) (by decide) hg,h.ma.dk.keep hblk (by decide) (by decide) hg,h.ma.st.keep hblk (by decide) (by decide) hg,own_keep h.ma.ca hblk (by decide) hg,?_,fun q hq => ?_,h.ma.c64⟩,fun q hq => ?_⟩
 ·have:kpC { H with sp:=H.sp.set p { P with ts:=v,tb:=t } } e = kpC H e:=by unfold kpC; simp only [hlen]
  rw [this]
  exact h.blk.grown hg (fun e=>hbk (Option.some.inj e).symm)
 ·simp only [hlen]
  exact hset w' _ hb
 ·rcases List.mem_or_eq_of_mem_set hq with hq | rfl
  ·exact ⟨own_keep (h.ma.ps q hq).1 hblk (by decide) hg,(h.ma.ps q hq).2.keep hblk (by decide) hg⟩
  ·exact ⟨own_keep (h.ma.ps P (List.mem_of_getElem? hP)).1 hblk (by decide) hg,ht.keep hblk (by decide) hg⟩
 ·rcases List.mem_or_eq_of_mem_set hq with hq | rfl
  ·exact h.tz q hq
  ·exact htz
theorem spN_H {H:MH} {p:Nat} {P:PS} (hP:H.sp[p]? = some P):spN H.ma p = P.sp:=by
 unfold spN MH.ma
 simp only
 rw [List.getD_eq_getElem?_getD,List.getElem?_map,hP]; rfl
theorem setTb_H {H:MH} {p:Nat} {P:PS} (hP:H.sp[p]? = some P) (v:Vector Value 8) (t:Tb):MH.ma { H with sp:=H.sp.set p { P with ts:=v,tb:=t } } = setTb H.ma p t:=by
 unfold setTb
 rw [spN_H hP]
 unfold MH.ma
 simp only [List.map_set]
 rfl
theorem ts_one {w:World} {v:Vector Value 8} {t:Tb} (h:TbR w (tsC v) t):∀ u ∈ (tsC v).toList,u.oneCell' = true:=by
 have:=h.one
 rw [← Array.all_toList,List.all_eq_true] at this
 exact this
theorem setT_sz {t:Tb} {n:Int} {e:En}:TbSz (setT t n e):=by
 by_cases h:setE t n e = 0
 ·exact right_sz (setT_right h)
 ·rw [setT_err h]; exact right_sz zTb_right
def setR (B:Nat) (t:Tb) (n:Int) (x:En):Rel:=⟨fun v w => ∃ cs,v = .tuple #[.agg cs,.int .i64 (setE t n x)] ∧ TbO w B cs (setT t n x),fun _ _ _ hb ⟨cs,h1,h2⟩=>⟨cs,h1,h2.below hb⟩⟩
def tabO (B:Nat) (t:Tb):Rel:=⟨fun v w => ∃ cs,v = .agg cs ∧ TbO w B cs t,fun _ _ _ hb ⟨cs,h1,h2⟩=>⟨cs,h1,h2.below hb⟩⟩
theorem kenter_any (H:MH) (e n:Int) (p:Nat) (x:En) (B b:Nat) (w:World) (h:KpO w B b H e) (hp:p < H.sp.length) :
  Calls Try.prog 102 #[.pointer (some ⟨b,0,none⟩),.int .i64 p,.int .i64 n,.agg (enC x)] w fun r w'=>r = .returned (.tuple #[]) ∧ KR w B b H w' (enterK ⟨H.ma,e⟩ p n x):=by
 obtain ⟨P,hP⟩:∃ P,H.sp[p]? = some P:=⟨_,List.getElem?_eq_getElem hp⟩
 have hsp:=Lib.hid (spN_H hP)
 have hBs:=Lib.hid h.bs
 have hPm:=List.mem_of_getElem? hP
 go_enter Try.func102,Try.ntmps102
 go_upto_region 1 with (fail)
 refine abs1 (fun W=>Code.wp _ _ _ _ W) fun w1 hb1 hx1 hs1 => ?_
 have h1:=h.below hb1
 have s1:=(KS.refl w b H).below hb1
 clear h hs1
 obtain ⟨g,off,cur,hap,hBg,hblk,hfit,hrd,hset⟩:=h1.setT hP
 refine wp_growY 18 [ofR 0 (isV (.pointer (some ⟨b,0,none⟩))),ofR 1 (isV (.pointer (some ⟨b,0,none⟩))),ofR 2 (isV (.pointer (some ⟨b,0,none⟩))),ofR 3 (isV (.pointer (some ⟨b,10,none⟩))),ofR 4 (isV (.slice (some ⟨g,off,none⟩) H.sp.length H.cp)),ofR 5 (isV (.int .i64 (p:Int))),ofR 6 (isV (.pointer (some ⟨g,off + p * 10,none⟩))),ofR 7 (isV (.pointer (some ⟨g,off + p * 10 + 2,none⟩))),ofR 8 (isV (.agg (tsC P.ts))),ofR 9 (isV (.int .i64 n)),ofR 10 (isV (.agg (enC x))),ofR 11 ((setR w1.heap.size P.tb n x)),ofR 12 ((setR w1.heap.size P.tb n x)),ofR 13 ((tabO w1.heap.size (setT P.tb n x))),ofR 14 (isV (.int .i64 (setE P.tb n x))),ofR 15 ((allocR w1.heap.size 63 8)),(boxY 15 w1.heap.size 63 (tabO w1.heap.size (setT P.tb n x))),ofR 17 (isV (.int .i64 (setE P.tb n x)))] (fun W=>Below w1.heap.size w1 W) (fun _ _ h h2=>below_next h2 h) (Below.refl _ _) (by kernel_rfl) _ rfl (by kernel_rfl) (by kernel_rfl) (by decide) (by kernel_rfl) _ rfl (by kernel_rfl) (all_cons ?_ (all_cons ?_ (all_cons ?_ (all_cons ?_ (all_cons ?_ (all_cons ?_ (all_cons ?_ (all_cons ?_ (all_cons ?_ (all_cons ?_ (all_cons ?_ (all_cons ?_ (all_cons ?_ (all_cons ?_ (all_cons ?_ (all_cons ?_ (all_cons ?_ (all_cons ?_ (all_nil))))))))))))))))))) ?_
 ·intro ρ y W hw hn hb hd
  refine askY (fun _ _ h h2=>below_next h2 h) hb (isV (.pointer (some ⟨b,0,none⟩))) (fun _ _ h=>h) ?_
  have E0:ρ (.tmp 0) = .pointer (some ⟨b,0,none⟩):=(hn (.tmp 0) rfl).trans rfl
  refine asked_val (.pointer (some ⟨b,0,none⟩)) (want_free rfl) (run_move (.inl rfl) E0) rfl
 ·intro ρ y W hw hn hb hd
  refine askY (fun _ _ h h2=>below_next h2 h) hb (isV (.pointer (some ⟨b,0,none⟩))) (fun _ _ h=>h) ?_
  have E11:=hw 11 0 rfl
  have h0:y 0 = .pointer (some ⟨b,0,none⟩):=hd 0 rfl
  refine asked_val (.pointer (some ⟨b,0,none⟩)) (want_free rfl) (by simp [execOp,go_sem,stripO,E11,h0]) rfl
 ·intro ρ y W hw hn hb hd
  refine askY (fun _ _ h h2=>below_next h2 h) hb (isV (.pointer (some ⟨b,0,none⟩))) (fun _ _ h=>h) ?_
  have E12:=hw 12 1 rfl
  have h1:y 1 = .pointer (some ⟨b,0,none⟩):=hd 1 rfl
  refine asked_val (.pointer (some ⟨b,0,none⟩)) (want_free rfl) (by simp [execOp,go_sem,stripO,E12,h1]) rfl
 ·intro ρ y W hw hn hb hd
  refine askY (fun _ _ h h2=>below_next h2 h) hb (isV (.pointer (some ⟨b,10,none⟩))) (fun _ _ h=>h) ?_
  have E13:=hw 13 2 rfl
  have h2:y 2 = .pointer (some ⟨b,0,none⟩):=hd 2 rfl
  refine asked_val (.pointer (some ⟨b,10,none⟩)) (want_free rfl) (by simp [execOp,go_sem,stripO,E13,h2]) rfl
 ·intro ρ y W hw hn hb hd
  refine askY (fun _ _ h h2=>below_next h2 h) hb (isV (.slice (some ⟨g,off,none⟩) H.sp.length H.cp)) (fun _ _ h=>h) ?_
  have E14:=hw 14 3 rfl
  have h3:y 3 = .pointer (some ⟨b,10,none⟩):=hd 3 rfl
  refine asked_val (.slice (some ⟨g,off,none⟩) H.sp.length H.cp) (want_free rfl) (by simp [execOp,go_sem,stripO,E14,h3,(h1.below hb).blk.cell,kpC,hap]) rfl
 ·intro ρ y W hw hn hb hd
  refine askY (fun _ _ h h2=>below_next h2 h) hb (isV (.int .i64 (p:Int))) (fun _ _ h=>h) ?_
  have E1:ρ (.tmp 1) = .int .i64 (p:Int):=(hn (.tmp 1) rfl).trans rfl
  refine asked_val (.int .i64 (p:Int)) (want_free rfl) (run_move (.inl rfl) E1) rfl
 ·intro ρ y W hw hn hb hd
  refine askY (fun _ _ h h2=>below_next h2 h) hb (isV (.pointer (some ⟨g,off + p * 10,none⟩))) (fun _ _ h=>h) ?_
  have E15:=hw 15 4 rfl
  have h4:y 4 = .slice (some ⟨g,off,none⟩) H.sp.length H.cp:=hd 4 rfl
  have E16:=hw 16 5 rfl
  have h5:y 5 = .int .i64 (p:Int):=hd 5 rfl
  refine asked_val (.pointer (some ⟨g,off + p * 10,none⟩)) (want_free rfl) (run_idx rfl (E15.trans h4) (E16.trans h5) hp Try.underlying38 space_size) rfl
 ·intro ρ y W hw hn hb hd
  refine askY (fun _ _ h h2=>below_next h2 h) hb (isV (.pointer (some ⟨g,off + p * 10 + 2,none⟩))) (fun _ _ h=>h) ?_
  have E17:=hw 17 6 rfl
  have h6:y 6 = .pointer (some ⟨g,off + p * 10,none⟩):=hd 6 rfl
  refine asked_val (.pointer (some ⟨g,off + p * 10 + 2,none⟩)) (want_free rfl) (by simp [execOp,go_sem,stripO,E17,h6]) rfl
 ·intro ρ y W hw hn hb hd
  refine askY (fun _ _ h h2=>below_next h2 h) hb (isV (.agg (tsC P.ts))) (fun _ _ h=>h) ?_
  have E18:=hw 18 7 rfl
  have h7:y 7 = .pointer (some ⟨g,off + p * 10 + 2,none⟩):=hd 7 rfl
  refine asked_val (.agg (tsC P.ts)) (want_free rfl) (run_load_rd rfl (E18.trans h7) (rdv_part (hrd.below hb) 2 8) Try.underlying63 tab_agg tab_size) rfl
 ·intro ρ y W hw hn hb hd
  refine askY (fun _ _ h h2=>below_next h2 h) hb (isV (.int .i64 n)) (fun _ _ h=>h) ?_
  have E2:ρ (.tmp 2) = .int .i64 n:=(hn (.tmp 2) rfl).trans rfl
  refine asked_val (.int .i64 n) (want_free rfl) (run_move (.inl rfl) E2) rfl
 ·intro ρ y W hw hn hb hd
  refine askY (fun _ _ h h2=>below_next h2 h) hb (isV (.agg (enC x))) (fun _ _ h=>h) ?_
  have E7:ρ (.tmp 7) = .pointer (some ⟨w.heap.size,0,none⟩):=(hn (.tmp 7) rfl).trans rfl
  refine asked_val (.agg (enC x)) (want_free rfl) (run_load_blk rfl E7 (hx1.ext hb) Try.underlying67 rfl entry_size) rfl
 ·intro ρ y W hw hn hb hd
  refine askY (fun _ _ h h2=>below_next h2 h) hb ((setR w1.heap.size P.tb n x)) (fun _ _ h=>h) ?_
  have E19:=hw 19 8 rfl
  have h8:y 8 = .agg (tsC P.ts):=hd 8 rfl
  have E20:=hw 20 9 rfl
  have h9:y 9 = .int .i64 n:=hd 9 rfl
  have E21:=hw 21 10 rfl
  have h10:y 10 = .agg (enC x):=hd 10 rfl
  have EF:∀ f,ρ (.func f) = .func (.func f) #[] #[]:=fun f=>hn (.func f) trivial
  refine asked_call _ _ (want_free rfl) (run_call rfl (EF _) Try.func119 (by kernel_rfl) (by kernel_rfl) (by simp only [List.map_toArray,List.map_cons,List.map_nil,E19,h8,E20,h9,E21,h10,EF]; rfl)) ?_
  refine (tset_any P.tb (tsC P.ts) n x W (((h1.below hb).ma.ps P hPm).2.rd) (h1.tz P hPm)).mono ?_
  rintro r W2 ⟨cs,rfl,ho,hb2⟩
  exact ⟨_,rfl,hb2,cs,rfl,ho.mono hb.size⟩
 ·intro ρ y W hw hn hb hd
  refine askY (fun _ _ h h2=>below_next h2 h) hb ((setR w1.heap.size P.tb n x)) (fun _ _ h=>h) ?_
  have E22:=hw 22 11 rfl
  have h11:=hd 11 rfl
  refine asked_val _ (want_free rfl) (run_move (.inl rfl) E22) ?_
  exact h11
 ·intro ρ y W hw hn hb hd
  refine askY (fun _ _ h h2=>below_next h2 h) hb ((tabO w1.heap.size (setT P.tb n x))) (fun _ _ h=>h) ?_
  have E10:=hw 10 12 rfl
  have h12:=hd 12 rfl
  obtain ⟨cs,hcs,ho⟩:=h12
  refine asked_val (.agg cs) (want_free rfl) (by simp [execOp,go_sem,stripO,E10,hcs]) ?_
  exact ⟨cs,rfl,ho⟩
 ·intro ρ y W hw hn hb hd
  refine askY (fun _ _ h h2=>below_next h2 h) hb (isV (.int .i64 (setE P.tb n x))) (fun _ _ h=>h) ?_
  have E10:=hw 10 12 rfl
  have h12:=hd 12 rfl
  obtain ⟨cs,hcs,ho⟩:=h12
  refine asked_val (.int .i64 (setE P.tb n x)) (want_free rfl) (by simp [execOp,go_sem,stripO,E10,hcs]) rfl
 ·intro ρ y W hw hn hb hd
  refine askY (fun _ _ h h2=>below_next h2 h) hb ((allocR w1.heap.size 63 8)) (fun _ _ h=>h) ?_
  refine asked_new (.pointer (some ⟨W.heap.size,0,none⟩)) (want_free rfl) (by simp [execOp,go_sem,stripO]) ((Below.refl _ _).alloc (Nat.le_refl _) (.cells #[.slice none 0 0,.slice none 0 0,.slice none 0 0,.slice none 0 0,.slice none 0 0,.slice none 0 0,.slice none 0 0,.slice none 0 0] 63)) ?_
  exact ⟨_,_,rfl,hb.size,Blk.new _ _ _,rfl⟩
 ·intro ρ y W hw hn hb hd
  have E8:=hw 8 15 rfl
  have h15:=hd 15 rfl
  have E23:=hw 23 13 rfl
  have h13:=hd 13 rfl
  obtain ⟨cc,e7,ho7⟩:=h13
  obtain ⟨g3,cur3,e9,hg9,hb9,hs9⟩:=h15
  have hsz7:=ho7.sz
  refine askY_store (want_free rfl) _ _ _ rfl g3 0 (.agg cc) cc.toList (E8.trans e9) (E23.trans e7) rfl cur3 _ hb9 (by rw [Array.length_toList,hs9,hsz7]; exact Nat.le_refl _) (by rw [Array.length_toList,hsz7]; exact tab_size) (one_toList ho7.rd.one) ?_
  intro w1 hw1 hgr
  rw [putAt_whole cur3 cc (by rw [hs9,hsz7])] at hw1
  refine ⟨hb.grown hgr hb.size (fun k hk=>by cases hk; exact hg9),⟨g3,cc,e9,hg9,hw1,⟨cc,rfl,ho7.keep hb9 (by decide) hgr⟩⟩,?_⟩
  intro k hk hne
  match k,hk,hne with
  | 0,_,_=>exact fun h=>h
  | 1,_,_=>exact fun h=>h
  | 2,_,_=>exact fun h=>h
  | 3,_,_=>exact fun h=>h
  | 4,_,_=>exact fun h=>h
  | 5,_,_=>exact fun h=>h
  | 6,_,_=>exact fun h=>h
  | 7,_,_=>exact fun h=>h
  | 8,_,_=>exact fun h=>h
  | 9,_,_=>exact fun h=>h
  | 10,_,_=>exact fun h=>h
  | 11,_,_=>exact fun ⟨c,q1,q2⟩=>⟨c,q1,q2.keep hb9 (by decide) hgr⟩
  | 12,_,_=>exact fun ⟨c,q1,q2⟩=>⟨c,q1,q2.keep hb9 (by decide) hgr⟩
  | 13,_,_=>exact fun ⟨c,q1,q2⟩=>⟨c,q1,q2.keep hb9 (by decide) hgr⟩
  | 14,_,_=>exact fun h=>h
  | 15,_,_=>exact fun q=>allocR_keep q hw1 (fun _=>hsz7) ⟨_,hb9⟩ hgr
  | 16,_,h=>exact absurd rfl h
  | 17,_,_=>exact fun h=>h
  | n + 18,h,_=>exact absurd h (by omega)
 ·intro ρ y W hw hn hb hd
  refine askY (fun _ _ h h2=>below_next h2 h) hb (isV (.int .i64 (setE P.tb n x))) (fun _ _ h=>h) ?_
  have E24:=hw 24 14 rfl
  have h14:y 14 = .int .i64 (setE P.tb n x):=hd 14 rfl
  refine asked_val (.int .i64 (setE P.tb n x)) (want_free rfl) (run_move (.inr rfl) (E24.trans h14)) rfl
 intro y W2 hbW2 hRW2
 replace hbW2:Below w1.heap.size w1 W2:=hbW2
 have hy0:y 0 = .pointer (some ⟨b,0,none⟩):=hRW2 0 (by decide)
 have hy1:y 1 = .pointer (some ⟨b,0,none⟩):=hRW2 1 (by decide)
 have hy2:y 2 = .pointer (some ⟨b,0,none⟩):=hRW2 2 (by decide)
 have hy3:y 3 = .pointer (some ⟨b,10,none⟩):=hRW2 3 (by decide)
 have hy4:y 4 = .slice (some ⟨g,off,none⟩) H.sp.length H.cp:=hRW2 4 (by decide)
 have hy5:y 5 = .int .i64 (p:Int):=hRW2 5 (by decide)
 have hy6:y 6 = .pointer (some ⟨g,off + p * 10,none⟩):=hRW2 6 (by decide)
 have hy7:y 7 = .pointer (some ⟨g,off + p * 10 + 2,none⟩):=hRW2 7 (by decide)
 have hy8:y 8 = .agg (tsC P.ts):=hRW2 8 (by decide)
 have hy9:y 9 = .int .i64 n:=hRW2 9 (by decide)
 have hy10:y 10 = .agg (enC x):=hRW2 10 (by decide)
 have hy14:y 14 = .int .i64 (setE P.tb n x):=hRW2 14 (by decide)
 have hy17:y 17 = .int .i64 (setE P.tb n x):=hRW2 17 (by decide)
 have hy11:((setR w1.heap.size P.tb n x)).r (y 11) W2:=hRW2 11 (by decide)
 have hy12:((setR w1.heap.size P.tb n x)).r (y 12) W2:=hRW2 12 (by decide)
 have hy13:((tabO w1.heap.size (setT P.tb n x))).r (y 13) W2:=hRW2 13 (by decide)
 have hy15:((allocR w1.heap.size 63 8)).r (y 15) W2:=hRW2 15 (by decide)
 have hy16:=hRW2 16 (by decide)
 clear hRW2
 simp only [lay,strip,stripO,List.map_cons,List.map_nil,Nat.reduceAdd,Nat.reduceLT,decide_true,decide_false,if_true,Bool.false_eq_true,if_false,List.setIfInBounds_toArray,List.set_cons_zero,List.set_cons_succ,List.drop_succ_cons,List.drop_zero,List.drop_nil,hy0,hy1,hy2,hy3,hy4,hy5,hy6,hy7,hy8,hy9,hy10,hy14,hy17]
 clear hy0 hy1 hy2 hy3 hy4 hy5 hy6 hy7 hy8 hy9 hy10 hy14 hy17
 obtain ⟨gx,cs2,hyx,hgx,hbx,ca2,hca2,ho2⟩:=hy16
 simp only [Value.agg.injEq] at hca2
 subst hca2
 obtain ⟨v2,rfl⟩:=ts_of ho2.sz
 have h2:=h1.below hbW2
 have s2:=s1.below hbW2
 have hge1:=Lib.hid hb1.size
 clear hy11 hy12 hy13 hy15 hset hrd hblk hfit hap h1 s1 hx1 hBg hb1 cur
 go_wp2_with fail
 refine (must_any _ e (setE P.tb n x) _ _ _ h2).mono ?_
 rintro r w3 ⟨rfl,k3,hg3⟩
 have s3:=s2.putB hg3 rfl rfl rfl
 have ho3:=ho2.keep h2.blk (by decide) hg3
 have hx3:=blk_keep hbx h2.blk (by decide) hg3
 have hBg:=Lib.hid hgx
 clear h2 s2 ho2 hbx hg3 hbW2 hgx
 have hsE:Hid (setE (spN H.ma p).tb n x = setE P.tb n x):=Lib.hid (by rw [hsp.out]; rfl)
 by_cases h0:setE P.tb n x = 0
 ·rw [h0,mustE_zero] at k3
  have hq:Hid (enterK ⟨H.ma,e⟩ p n x = ⟨setTb H.ma p (setT P.tb n x),e⟩):=Lib.hid (by
   unfold enterK
   simp only
   rw [if_pos (hsE.out.trans h0),hsp.out]
   rfl)
  obtain ⟨g,off,cur,hap,hBg',hblk,hfit,hrd,hset⟩:=k3.setT hP
  have hx:=hx3.cell
  have kc3:=k3.blk.cell
  unfold kpC at kc3
  rw [hap] at kc3
  rw [h0]
  go_upto_region 4 with (fail)
  refine wp_growP 9 [_,_,_,_,_,_,_,_,_] (Gk rfl (Gk rfl (Gf b 0 rfl rfl (Gf b 10 rfl rfl (Gc (.slice (some ⟨g,off,none⟩) H.sp.length H.cp) (fun W hb=>by simp [(k3.below hb).blk.cell,kpC,hap]) rfl rfl rfl rfl (Gk rfl (Gr (.agg (tsC v2)) (fun ρ y W hb hk=>(run_load_rd rfl (kx_at rfl hk) ((hx3.ext hb).rd) Try.underlying63 tab_agg tab_size)) rfl rfl (Gr (.pointer (some ⟨g,off + p * 10,none⟩)) (fun ρ y W hb hk=>(run_idx rfl (kx_at rfl hk) (kx_at rfl hk) hp Try.underlying38 space_size)) rfl rfl (Gf g (off + p * 10 + 2) rfl rfl (all_nil)))))))))) (fun _=>rfl) rfl ?_
  intro y W4 hbW4 _
  go_wp2_with (refine wpList_st rfl _ _ _ rfl g (off + p * 10 + 2) (tsC v2) rfl rfl _ _ (hblk.ext hbW4) hfit tab_size (by rw [← Array.all_toList,List.all_eq_true]; exact ts_one ho3.rd) ?_)
  intro w5 hb5 hg5
  have hg5':=below_then hbW4 hg5
  have k5:=hset w5 v2 (setT P.tb n x) (ho3.mono (Nat.le_trans hBs.out hge1.out)) setT_sz hb5 hg5'
  go_wp2
  simp [bodyPost,results,go_sem,Try.results102]
  rw [hq.out]
  refine ⟨_,_,k5,s3.put hg5' (.inr (.inr (.inr (by rw [hap]; rfl)))) fun y hy => .inl (kb_same rfl rfl rfl hy),?_⟩
  rw [setTb_H hP]
 ·have hq:Hid (enterK ⟨H.ma,e⟩ p n x = ⟨H.ma,mustE e (setE P.tb n x)⟩):=Lib.hid (by
   unfold enterK
   simp only
   rw [if_neg (by rw [hsE.out]; exact h0),hsE.out])
  go_wp2
  simp [bodyPost,results,go_sem,Try.results102]
  rw [hq.out]
  exact ⟨_,_,k3,s3,rfl⟩
theorem slots_size:(Try.prog.info? 29).map (·.size) = some 1:=by kernel_rfl
def tupO (B:Nat) (T:TypeId) (sz n:Nat) (xs:List Value) (er:Int):Rel:=⟨fun v w => ∃ u,v = .tuple #[u,.int .i64 er] ∧ Own w B T sz u n xs,fun _ _ _ hb ⟨u,h1,h2⟩=>⟨u,h1,h2.below hb⟩⟩
theorem KpO.at {w:World} {B b:Nat} {H:MH} {e:Int} (h:KpO w B b H e) {p:Nat} {P:PS} (hP:H.sp[p]? = some P):∃ g off,H.ap = some ⟨g,off,none⟩ ∧ RdV w (some ⟨g,off + p * 10,none⟩) (psL P) ∧ RdV w (some ⟨g,off + p * 10 + 2,none⟩) (tsC P.ts).toList ∧ P.good w:=by
 have hp:=(List.getElem?_eq_some_iff.1 hP).1
 obtain ⟨g,off,P',ha,hP',hr⟩:=ps_at h.ma.rd.sp.rd p hp
 rw [hP] at hP'
 cases hP'
 exact ⟨g,off,ha,hr,rdv_part hr 2 8,h.ma.rd.ps P (List.mem_of_getElem? hP)⟩
theorem KR.trans {w0 w1 w2:World} {B b:Nat} {H0 H1:MH} {k:Kp} (h:KS w0 b H0 w1 H1) (k2:KR w1 B b H1 w2 k):KR w0 B b H0 w2 k:=by
 obtain ⟨H2,e2,h1,h2,h3⟩:=k2
 exact ⟨H2,e2,h1,h.trans h2,h3⟩
theorem kdrop_any (H:MH) (e n:Int) (p:Nat) (B b:Nat) (w:World) (h:KpO w B b H e) (hp:p < H.sp.length) :
  Calls Try.prog 104 #[.pointer (some ⟨b,0,none⟩),.int .i64 p,.int .i64 n] w fun r w'=>r = .returned (.tuple #[]) ∧ KR w B b H w' (dropK ⟨H.ma,e⟩ p n):=by
 obtain ⟨P,hP⟩:∃ P,H.sp[p]? = some P:=⟨_,List.getElem?_eq_getElem hp⟩
 have hsp:=Lib.hid (spN_H hP)
 obtain ⟨g,off,hap,hrd,hrt,hgood⟩:=h.at hP
 have hc:=h.blk.cell
 unfold kpC at hc
 rw [hap] at hc
 have hpi:(p:Int) < (H.sp.length:Int):=by omega
 go_enter Try.func104,Try.ntmps104
 go_wp2_with (refine wpList_ldg _ _ rfl g (off + p * 10 + 2) rfl rfl _ hrt _ Try.underlying63 tab_agg tab_size ?_)
 refine (tget_lit P.tb (tsC P.ts) n _ hgood.tb).mono ?_
 rintro r w1 ⟨rfl,hb1⟩
 have h1:=h.below hb1
 have s1:=(KS.refl w b H).below hb1
 clear hc hrd hrt hgood
 generalize hx:getT P.tb n = x
 go_wp2_with (refine wpList_stn rfl _ _ _ rfl (enC x) rfl rfl rfl entry_size (by simp [enC,Value.oneCell']) ?_)
 intro w2 hb2 hx2
 have h2:=h1.below hb2
 have s2:=s1.below hb2
 clear h1 s1 hb1 hb2 h
 have hc2:=hx2.cell
 unfold enC at hc2
 have hgx:Hid (getT (spN H.ma p).tb n = x):=Lib.hid (by rw [hsp.out]; exact hx)
 clear hx
 by_cases hk1:x.k = 1
 ·have hq:Hid (dropK ⟨H.ma,e⟩ p n = enterK (fholdK ⟨H.ma,e⟩ x.n (-1)) p n zEn):=Lib.hid (by
   unfold dropK
   simp only [hgx.out]
   rw [if_pos hk1])
  have hk1':=Lib.hid hk1
  rw [hk1] at hc2
  clear hk1
  go_wp2_with fail
  refine (khold_any H e x.n (-1) B b _ h2).mono ?_
  rintro r w3 ⟨rfl,H3,e3,h3,s3,q3⟩
  have hl3:H3.sp.length = H.sp.length:=by
   have e1:H3.ma.sp = H.ma.sp:=by
    have:=congrArg (fun k=>k.m.sp) q3
    simp only at this
    rw [this]
    unfold fholdK
    split <;> rfl
   have:=congrArg List.length e1
   unfold MH.ma at this
   simpa using this
  have s3':=s2.trans s3
  have hq3:=Lib.hid q3
  clear q3 s3 hc2
  go_wp2_with fail
  refine (kenter_any H3 e3 n p zEn B b _ h3 (by rw [hl3]; exact hp)).mono ?_
  rintro r w4 ⟨rfl,hk4⟩
  go_wp2
  simp [bodyPost,results,go_sem,Try.results104]
  rw [hq.out,← hq3.out]
  exact KR.trans s3' hk4
 ·by_cases hk2:x.k = 2
  ·have hq:Hid (dropK ⟨H.ma,e⟩ p n = enterK (sholdK ⟨H.ma,e⟩ x.n (-1)) p n zEn):=Lib.hid (by
    unfold dropK
    simp only [hgx.out]
    rw [if_neg hk1,if_pos hk2])
   rw [hk2] at hc2
   clear hk1 hk2
   have hck:=h2.blk.cell
   unfold kpC at hck
   go_upto_region 5 with (fail)
   refine wp_growY 13 [ofR 0 (isV (.pointer (some ⟨b,0,none⟩))),ofR 1 (isV (.pointer (some ⟨b,0,none⟩))),ofR 2 (isV (.pointer (some ⟨b,0,none⟩))),ofR 3 (isV (.pointer (some ⟨b,2,none⟩))),ofR 4 (isV (.slice H.asl H.sl.length H.csl)),ofR 5 (isV (.pointer (some ⟨w1.heap.size,1,none⟩))),ofR 6 (isV (.int .i64 x.n)),ofR 7 ((tupO w2.heap.size 3 1 (holdL H.sl x.n (-1)).length ((holdL H.sl x.n (-1)).map inV) (sholdE H.sl x.n (-1)))),ofR 8 ((tupO w2.heap.size 3 1 (holdL H.sl x.n (-1)).length ((holdL H.sl x.n (-1)).map inV) (sholdE H.sl x.n (-1)))),ofR 9 ((ownR w2.heap.size 3 1 (holdL H.sl x.n (-1)).length ((holdL H.sl x.n (-1)).map inV))),ofR 10 (isV (.int .i64 (sholdE H.sl x.n (-1)))),ofR 11 ((ownR w2.heap.size 3 1 (holdL H.sl x.n (-1)).length ((holdL H.sl x.n (-1)).map inV))),ofR 12 (isV (.int .i64 (sholdE H.sl x.n (-1))))] (fun W=>Below w2.heap.size w2 W) (fun _ _ h h2=>below_next h2 h) (Below.refl _ _) (by kernel_rfl) _ rfl (by kernel_rfl) (by kernel_rfl) (by decide) (by kernel_rfl) _ rfl (by kernel_rfl) (all_cons ?_ (all_cons ?_ (all_cons ?_ (all_cons ?_ (all_cons ?_ (all_cons ?_ (all_cons ?_ (all_cons ?_ (all_cons ?_ (all_cons ?_ (all_cons ?_ (all_cons ?_ (all_cons ?_ (all_nil)))))))))))))) ?_
   ·intro ρ y W hw hn hb hd
    refine askY (fun _ _ h h2=>below_next h2 h) hb (isV (.pointer (some ⟨b,0,none⟩))) (fun _ _ h=>h) ?_
    have E0:ρ (.tmp 0) = .pointer (some ⟨b,0,none⟩):=(hn (.tmp 0) rfl).trans rfl
    refine asked_val (.pointer (some ⟨b,0,none⟩)) (want_free rfl) (run_move (.inl rfl) E0) rfl
   ·intro ρ y W hw hn hb hd
    refine askY (fun _ _ h h2=>below_next h2 h) hb (isV (.pointer (some ⟨b,0,none⟩))) (fun _ _ h=>h) ?_
    have E31:=hw 31 0 rfl
    have h0:y 0 = .pointer (some ⟨b,0,none⟩):=hd 0 rfl
    refine asked_val (.pointer (some ⟨b,0,none⟩)) (want_free rfl) (by simp [execOp,go_sem,stripO,E31,h0]) rfl
   ·intro ρ y W hw hn hb hd
    refine askY (fun _ _ h h2=>below_next h2 h) hb (isV (.pointer (some ⟨b,0,none⟩))) (fun _ _ h=>h) ?_
    have E32:=hw 32 1 rfl
    have h1:y 1 = .pointer (some ⟨b,0,none⟩):=hd 1 rfl
    refine asked_val (.pointer (some ⟨b,0,none⟩)) (want_free rfl) (by simp [execOp,go_sem,stripO,E32,h1]) rfl
   ·intro ρ y W hw hn hb hd
    refine askY (fun _ _ h h2=>below_next h2 h) hb (isV (.pointer (some ⟨b,2,none⟩))) (fun _ _ h=>h) ?_
    have E33:=hw 33 2 rfl
    have h2:y 2 = .pointer (some ⟨b,0,none⟩):=hd 2 rfl
    refine asked_val (.pointer (some ⟨b,2,none⟩)) (want_free rfl) (by simp [execOp,go_sem,stripO,E33,h2]) rfl
   ·intro ρ y W hw hn hb hd
    refine askY (fun _ _ h h2=>below_next h2 h) hb (isV (.slice H.asl H.sl.length H.csl)) (fun _ _ h=>h) ?_
    have E34:=hw 34 3 rfl
    have h3:y 3 = .pointer (some ⟨b,2,none⟩):=hd 3 rfl
    refine asked_val (.slice H.asl H.sl.length H.csl) (want_free rfl) (by simp [execOp,go_sem,stripO,E34,h3,(h2.below hb).blk.cell,kpC]) rfl
   ·intro ρ y W hw hn hb hd
    refine askY (fun _ _ h h2=>below_next h2 h) hb (isV (.pointer (some ⟨w1.heap.size,1,none⟩))) (fun _ _ h=>h) ?_
    have E6:ρ (.tmp 6) = .pointer (some ⟨w1.heap.size,0,none⟩):=(hn (.tmp 6) rfl).trans rfl
    refine asked_val (.pointer (some ⟨w1.heap.size,1,none⟩)) (want_free rfl) (by simp [execOp,go_sem,stripO,E6]) rfl
   ·intro ρ y W hw hn hb hd
    refine askY (fun _ _ h h2=>below_next h2 h) hb (isV (.int .i64 x.n)) (fun _ _ h=>h) ?_
    have E36:=hw 36 5 rfl
    have h5:y 5 = .pointer (some ⟨w1.heap.size,1,none⟩):=hd 5 rfl
    refine asked_val (.int .i64 x.n) (want_free rfl) (by simp [execOp,go_sem,stripO,E36,h5,(hx2.ext hb).cell,enC]) rfl
   ·intro ρ y W hw hn hb hd
    refine askY (fun _ _ h h2=>below_next h2 h) hb ((tupO w2.heap.size 3 1 (holdL H.sl x.n (-1)).length ((holdL H.sl x.n (-1)).map inV) (sholdE H.sl x.n (-1)))) (fun _ _ h=>h) ?_
    have E35:=hw 35 4 rfl
    have h4:y 4 = .slice H.asl H.sl.length H.csl:=hd 4 rfl
    have E37:=hw 37 6 rfl
    have h6:y 6 = .int .i64 x.n:=hd 6 rfl
    have EC:∀ v,ρ (.const v) = v:=fun v=>hn (.const v) trivial
    have EF:∀ f,ρ (.func f) = .func (.func f) #[] #[]:=fun f=>hn (.func f) trivial
    refine asked_call _ _ (want_free rfl) (run_call rfl (EF _) Try.func101 (by kernel_rfl) (by kernel_rfl) (by simp only [List.map_toArray,List.map_cons,List.map_nil,E35,h4,E37,h6,EC,EF]; rfl)) ?_
    have hm:=(h2.below hb).ma.rd.sl
    refine (slhold_any H.sl H.asl H.csl x.n (-1) W hm.le hm.nl hm.rd (by have:=hm.le; have:=hm.mx; unfold maxLen at this; omega)).mono ?_
    rintro r W3 ⟨u,rfl,ho,hb3⟩
    exact ⟨_,rfl,hb3,u,rfl,ho.mono hb.size⟩
   ·intro ρ y W hw hn hb hd
    refine askY (fun _ _ h h2=>below_next h2 h) hb ((tupO w2.heap.size 3 1 (holdL H.sl x.n (-1)).length ((holdL H.sl x.n (-1)).map inV) (sholdE H.sl x.n (-1)))) (fun _ _ h=>h) ?_
    have E38:=hw 38 7 rfl
    have h7:=hd 7 rfl
    refine asked_val _ (want_free rfl) (run_move (.inl rfl) E38) ?_
    exact h7
   ·intro ρ y W hw hn hb hd
    refine askY (fun _ _ h h2=>below_next h2 h) hb ((ownR w2.heap.size 3 1 (holdL H.sl x.n (-1)).length ((holdL H.sl x.n (-1)).map inV))) (fun _ _ h=>h) ?_
    have E30:=hw 30 8 rfl
    have h8:=hd 8 rfl
    obtain ⟨u,hu,ho⟩:=h8
    refine asked_val u (want_free rfl) (by simp [execOp,go_sem,stripO,E30,hu]) ?_
    exact ho
   ·intro ρ y W hw hn hb hd
    refine askY (fun _ _ h h2=>below_next h2 h) hb (isV (.int .i64 (sholdE H.sl x.n (-1)))) (fun _ _ h=>h) ?_
    have E30:=hw 30 8 rfl
    have h8:=hd 8 rfl
    obtain ⟨u,hu,ho⟩:=h8
    refine asked_val (.int .i64 (sholdE H.sl x.n (-1))) (want_free rfl) (by simp [execOp,go_sem,stripO,E30,hu]) rfl
   ·intro ρ y W hw hn hb hd
    refine askY (fun _ _ h h2=>below_next h2 h) hb ((ownR w2.heap.size 3 1 (holdL H.sl x.n (-1)).length ((holdL H.sl x.n (-1)).map inV))) (fun _ _ h=>h) ?_
    have E39:=hw 39 9 rfl
    have h9:=hd 9 rfl
    refine asked_val _ (want_free rfl) (run_move (.inr rfl) E39) ?_
    exact h9
   ·intro ρ y W hw hn hb hd
    refine askY (fun _ _ h h2=>below_next h2 h) hb (isV (.int .i64 (sholdE H.sl x.n (-1)))) (fun _ _ h=>h) ?_
    have E40:=hw 40 10 rfl
    have h10:y 10 = .int .i64 (sholdE H.sl x.n (-1)):=hd 10 rfl
    refine asked_val (.int .i64 (sholdE H.sl x.n (-1))) (want_free rfl) (run_move (.inr rfl) (E40.trans h10)) rfl
   intro y W3 hbW3 hRW3
   replace hbW3:Below w2.heap.size w2 W3:=hbW3
   have hy0:y 0 = .pointer (some ⟨b,0,none⟩):=hRW3 0 (by decide)
   have hy1:y 1 = .pointer (some ⟨b,0,none⟩):=hRW3 1 (by decide)
   have hy2:y 2 = .pointer (some ⟨b,0,none⟩):=hRW3 2 (by decide)
   have hy3:y 3 = .pointer (some ⟨b,2,none⟩):=hRW3 3 (by decide)
   have hy4:y 4 = .slice H.asl H.sl.length H.csl:=hRW3 4 (by decide)
   have hy5:y 5 = .pointer (some ⟨w1.heap.size,1,none⟩):=hRW3 5 (by decide)
   have hy6:y 6 = .int .i64 x.n:=hRW3 6 (by decide)
   have hy10:y 10 = .int .i64 (sholdE H.sl x.n (-1)):=hRW3 10 (by decide)
   have hy12:y 12 = .int .i64 (sholdE H.sl x.n (-1)):=hRW3 12 (by decide)
   have hy7:((tupO w2.heap.size 3 1 (holdL H.sl x.n (-1)).length ((holdL H.sl x.n (-1)).map inV) (sholdE H.sl x.n (-1)))).r (y 7) W3:=hRW3 7 (by decide)
   have hy8:((tupO w2.heap.size 3 1 (holdL H.sl x.n (-1)).length ((holdL H.sl x.n (-1)).map inV) (sholdE H.sl x.n (-1)))).r (y 8) W3:=hRW3 8 (by decide)
   have hy9:((ownR w2.heap.size 3 1 (holdL H.sl x.n (-1)).length ((holdL H.sl x.n (-1)).map inV))).r (y 9) W3:=hRW3 9 (by decide)
   have hy11:((ownR w2.heap.size 3 1 (holdL H.sl x.n (-1)).length ((holdL H.sl x.n (-1)).map inV))).r (y 11) W3:=hRW3 11 (by decide)
   clear hRW3
   simp only [lay,strip,stripO,List.map_cons,List.map_nil,Nat.reduceAdd,Nat.reduceLT,decide_true,decide_false,if_true,Bool.false_eq_true,if_false,List.setIfInBounds_toArray,List.set_cons_zero,List.set_cons_succ,List.drop_succ_cons,List.drop_zero,List.drop_nil,hy0,hy1,hy2,hy3,hy4,hy5,hy6,hy10,hy12]
   clear hy0 hy1 hy2 hy3 hy4 hy5 hy6 hy10 hy12
   have ho3:Own W3 w2.heap.size 3 1 (y 11) (holdL H.sl x.n (-1)).length ((holdL H.sl x.n (-1)).map inV):=hy11
   obtain ⟨a3,c3,e7,_⟩:=Own.rd ho3
   rw [e7] at ho3
   simp only [e7]
   have k3:=h2.below hbW3
   have s3:=s2.below hbW3
   have hge:=Lib.hid (Nat.le_trans h2.bs (Nat.le_refl _))
   have hws:=Lib.hid s2.size
   clear hy7 hy8 hy9 hy11 e7 hc2 hck h2 s2 hx2 hbW3
   go_wp2_with fail
   refine (must_any _ e (sholdE H.sl x.n (-1)) _ _ _ k3).mono ?_
   rintro r w4 ⟨rfl,k4,hg4⟩
   have s4:=s3.putB hg4 rfl rfl rfl
   have ho4:=own_keep ho3 k3.blk (by decide) hg4
   clear k3 s3 ho3 hg4
   by_cases h0:sholdE H.sl x.n (-1) = 0
   ·rw [h0,mustE_zero] at k4
    have hq2:Hid (sholdK ⟨H.ma,e⟩ x.n (-1) = ⟨{ H.ma with sl:=holdL H.sl x.n (-1) },e⟩):=Lib.hid (by unfold sholdK; exact if_pos h0)
    rw [h0]
    go_wp2_with (refine wpList_stv rfl _ _ _ rfl b 2 _ [.slice a3 (holdL H.sl x.n (-1)).length c3] rfl rfl rfl _ _ k4.blk (by show 2 + 1 ≤ 12; decide) slots_size (fun u hu=>by cases List.mem_singleton.1 hu; rfl) ?_)
    intro w5 hb5 hg5
    have k5:=k4.setL (ho4.mono hge.out) hb5 hg5
    have s5:KS w b H w5 { H with asl:=a3,csl:=c3,sl:=holdL H.sl x.n (-1) }:=s4.putB hg5 rfl rfl rfl
    go_wp2_with fail
    refine (kenter_any _ e n p zEn B b _ k5 hp).mono ?_
    rintro r w6 ⟨rfl,hk6⟩
    go_wp2
    simp [bodyPost,results,go_sem,Try.results104]
    rw [hq.out,hq2.out]
    exact KR.trans s5 hk6
   ·have hq2:Hid (sholdK ⟨H.ma,e⟩ x.n (-1) = ⟨H.ma,mustE e (sholdE H.sl x.n (-1))⟩):=Lib.hid (by unfold sholdK; exact if_neg h0)
    go_wp2_with fail
    refine (kenter_any _ (mustE e (sholdE H.sl x.n (-1))) n p zEn B b _ k4 hp).mono ?_
    rintro r w6 ⟨rfl,hk6⟩
    go_wp2
    simp [bodyPost,results,go_sem,Try.results104]
    rw [hq.out,hq2.out]
    exact KR.trans s4 hk6
  ·have hq:Hid (dropK ⟨H.ma,e⟩ p n = ⟨H.ma,e⟩):=Lib.hid (by
    unfold dropK
    simp only [hgx.out]
    rw [if_neg hk1,if_neg hk2])
   go_wp2
   simp [bodyPost,results,go_sem,Try.results104]
   rw [hq.out]
   exact ⟨_,_,h2,s2,rfl⟩
def ent (m:Ma) (p:Nat) (n:Int):En:=getT (spN m p).tb n
structure Pt (m:Ma):Prop where
 fr:wrongM m.m = 0
 sl:wrongS m.sl = 0
 sw:wrongD m.sw = 0
 dk:wrongD m.dk = 0
 st:wrongSt m.st = 0
 swl:m.sw.blocks.length = m.sl.length
 dkl:(m.dk.blocks.length:Int) = m.st.count
 spl:m.sp.length ≤ 4
 ar:∀ s ∈ m.sp,(wrongA s.ar).1 = 0
 tb:∀ s ∈ m.sp,wrongT s.tb = 0
theorem spN_at {m:Ma} {p:Nat} (h:p < m.sp.length):m.sp[p]? = some (spN m p):=by
 unfold spN; rw [List.getD_eq_getElem?_getD,List.getElem?_eq_getElem h]; rfl
theorem spN_mem {m:Ma} {p:Nat} (h:p < m.sp.length):spN m p ∈ m.sp:=List.mem_of_getElem? (spN_at h)
theorem spN_out {m:Ma} {p:Nat} (h:m.sp.length ≤ p):spN m p = zSp:=by
 unfold spN; rw [List.getD_eq_getElem?_getD,List.getElem?_eq_none h]; rfl
theorem mem_spN {m:Ma} {s:Sp} (h:s ∈ m.sp):∃ p,p < m.sp.length ∧ s = spN m p:=by
 obtain ⟨i,hi,rfl⟩:=List.mem_iff_getElem.1 h
 refine ⟨i,hi,?_⟩
 have:=spN_at (m:=m) hi
 rw [List.getElem?_eq_getElem hi] at this
 exact Option.some.inj this
theorem Pt.tbN {m:Ma} (h:Pt m) (p:Nat):wrongT (spN m p).tb = 0:=by
 rcases Nat.lt_or_ge p m.sp.length with hp | hp
 ·exact h.tb _ (spN_mem hp)
 ·rw [spN_out hp]; decide
theorem Pt.arN {m:Ma} (h:Pt m) (p:Nat):(wrongA (spN m p).ar).1 = 0:=by
 rcases Nat.lt_or_ge p m.sp.length with hp | hp
 ·exact h.ar _ (spN_mem hp)
 ·rw [spN_out hp]; decide
theorem ent_ok {m:Ma} (h:Pt m) (p:Nat) (n:Int):entE (ent m p n) = 0:=getT_ent (h.tbN p) n
theorem ent_out {m:Ma} (p:Nat) {n:Int} (h:n < 0 ∨ 64 ≤ n):ent m p n = zEn:=getT_out h
theorem entE_iff (e:En):entE e = 0 ↔ (e.k = 0 ∧ e.n = 0 ∧ e.w = false) ∨ (e.k = 1 ∧ 0 ≤ e.n ∧ e.n < 40) ∨ (e.k = 2 ∧ 0 ≤ e.n ∧ e.n < 60 ∧ e.w = false):=by
 obtain ⟨k,n,w⟩:=e
 unfold entE
 simp only
 cases w
 all_goals
  simp only [Bool.false_eq_true,reduceCtorEq,and_true,and_false,or_false,false_or,or_true]
  constructor
  ·intro h
   split at h
   ·omega
   ·split at h
    ·omega
    ·split at h <;> omega
  ·intro h
   split
   ·omega
   ·split
    ·omega
    ·split
     ·omega
     ·rfl
theorem spN_setTb {m:Ma} {p:Nat} {t:Tb} (hp:p < m.sp.length) (q:Nat):spN (setTb m p t) q = if q = p then { spN m p with tb:=t } else spN m q:=by
 unfold setTb
 show (m.sp.set p _).getD q zSp = _
 rw [List.getD_eq_getElem?_getD,List.getElem?_set]
 by_cases e:q = p
 ·subst e; rw [if_pos rfl,if_pos hp,if_pos rfl]; rfl
 ·rw [if_neg (fun h=>e h.symm),if_neg e]; unfold spN; rw [List.getD_eq_getElem?_getD]
theorem ent_setTb {m:Ma} {p:Nat} {t:Tb} (hp:p < m.sp.length) (q:Nat) (n:Int):ent (setTb m p t) q n = if q = p then getT t n else ent m q n:=by
 unfold ent
 rw [spN_setTb hp]
 by_cases e:q = p
 ·rw [if_pos e,if_pos e]
 ·rw [if_neg e,if_neg e]
theorem setTb_len {m:Ma} {p:Nat} {t:Tb}:(setTb m p t).sp.length = m.sp.length:=List.length_set
theorem Pt.setTb {m:Ma} (h:Pt m) {p:Nat} {t:Tb} (ht:wrongT t = 0):Pt (setTb m p t):=by
 by_cases hp:p < m.sp.length
 ·refine { h with spl:=by rw [setTb_len]; exact h.spl,ar:=fun s hs => ?_,tb:=fun s hs => ?_ }
  ·rcases List.mem_or_eq_of_mem_set hs with hs | rfl
   ·exact h.ar s hs
   ·exact h.arN p
  ·rcases List.mem_or_eq_of_mem_set hs with hs | rfl
   ·exact h.tb s hs
   ·exact ht
 ·have:Go.Proofs.Ytkjobhcnlppcnaa.setTb m p t = m:=by
   unfold Go.Proofs.Ytkjobhcnlppcnaa.setTb
   rw [List.set_eq_of_length_le (by omega)]
  rw [this]; exact h
def isE (kd i:Int) (e:En):Bool:=decide (e.k = kd) && decide (e.n = i)
def holdN (m:Ma) (kd i:Int):Nat:=(m.sp.map fun s=>(flatL s.tb).countP (isE kd i)).sum
def b2n (b:Bool):Nat:=if b = true then 1 else 0
theorem countP_set {α:Type} (q:α → Bool):∀ (l:List α) (k:Nat) (h:k < l.length) (x:α),(l.set k x).countP q + b2n (q l[k]) = l.countP q + b2n (q x)
 | a :: l,0,_,x=>by
  simp only [List.set_cons_zero,List.getElem_cons_zero,List.countP_cons,b2n]
  omega
 | a :: l,k + 1,h,x=>by
  have:=countP_set q l k (by simpa using h) x
  simp only [List.set_cons_succ,List.getElem_cons_succ,List.countP_cons]
  omega
theorem sum_set:∀ (l:List Nat) (k:Nat) (h:k < l.length) (x:Nat),(l.set k x).sum + l[k] = l.sum + x
 | a :: l,0,_,x=>by simp only [List.set_cons_zero,List.getElem_cons_zero,List.sum_cons]; omega
 | a :: l,k + 1,h,x=>by
  have:=sum_set l k (by simpa using h) x
  simp only [List.set_cons_succ,List.getElem_cons_succ,List.sum_cons]
  omega
theorem flat_set {t:Tb} {n:Int} {e:En} (h:setE t n e = 0):flatL (setT t n e) = (flatL t).set n.toNat e:=by
 obtain ⟨h1,h2,h3⟩:=setE_parts h
 rw [setT_tab h,flat_tabOf (set_ent h1 h3) (by rw [List.length_set,flat_len64])]
theorem flat_count {t:Tb} {n:Int} {e:En} (h:setE t n e = 0) (q:En → Bool):(flatL (setT t n e)).countP q + b2n (q (getT t n)) = (flatL t).countP q + b2n (q e):=by
 obtain ⟨h1,h2,h3⟩:=setE_parts h
 have hl:n.toNat < (flatL t).length:=by rw [flat_len64]; omega
 have h4:=countP_set q (flatL t) n.toNat hl e
 have h5:=flat_at t n.toNat (by omega)
 rw [List.getElem?_eq_getElem hl,Int.toNat_of_nonneg h2.1] at h5
 rw [Option.some.inj h5] at h4
 rw [flat_set h]; exact h4
theorem hold_set {m:Ma} {p:Nat} (hp:p < m.sp.length) {n:Int} {x:En} (h:setE (spN m p).tb n x = 0) (kd i:Int) :
  holdN (setTb m p (setT (spN m p).tb n x)) kd i + b2n (isE kd i (ent m p n)) = holdN m kd i + b2n (isE kd i x):=by
 have h1:=flat_count h (isE kd i)
 have h2:=sum_set (m.sp.map fun s=>(flatL s.tb).countP (isE kd i)) p (by simpa using hp) ((flatL (setT (spN m p).tb n x)).countP (isE kd i))
 unfold holdN setTb
 rw [List.map_set]
 have h3:(m.sp.map fun s=>(flatL s.tb).countP (isE kd i))[p]'(by simpa using hp) = (flatL (spN m p).tb).countP (isE kd i):=by
  rw [List.getElem_map]
  have:=spN_at hp
  rw [List.getElem?_eq_getElem hp] at this
  rw [Option.some.inj this]
 rw [h3] at h2
 have h4:b2n (isE kd i (ent m p n)) = b2n (isE kd i (getT (spN m p).tb n)):=rfl
 simp only
 omega
theorem sum_pos {l:List Nat}:0 < l.sum ↔ ∃ k,∃ h:k < l.length,0 < l[k]:=by
 induction l with
 | nil=>simp
 | cons a l ih=>
  rw [List.sum_cons]
  constructor
  ·intro h
   by_cases ha:0 < a
   ·exact ⟨0,by simp,by simpa using ha⟩
   ·obtain ⟨k,hk,hx⟩:=ih.1 (by omega)
    exact ⟨k + 1,by simpa using hk,by simpa using hx⟩
  ·rintro ⟨k,hk,hx⟩
   cases k with
   | zero=>simp at hx; omega
   | succ k=>
    have:=ih.2 ⟨k,by simpa using hk,by simpa using hx⟩
    omega
theorem hold_pos {m:Ma} {kd i:Int} (hk:kd ≠ 0):0 < holdN m kd i ↔ ∃ p n,p < m.sp.length ∧ (0 ≤ n ∧ n < 64) ∧ (ent m p n).k = kd ∧ (ent m p n).n = i:=by
 unfold holdN
 rw [sum_pos]
 constructor
 ·rintro ⟨p,hp,h⟩
  have hp' : p < m.sp.length:=by simpa using hp
  rw [List.getElem_map] at h
  obtain ⟨e,he,hq⟩:=List.countP_pos_iff.1 h
  obtain ⟨j,hj,rfl⟩:=List.mem_iff_getElem.1 he
  have hj' : j < 64:=by rw [flat_len64] at hj; exact hj
  have hs:m.sp[p] = spN m p:=by
   have:=spN_at hp'
   rw [List.getElem?_eq_getElem hp'] at this
   exact Option.some.inj this
  have h5:=flat_at m.sp[p].tb j hj'
  rw [List.getElem?_eq_getElem hj] at h5
  rw [Option.some.inj h5,hs] at hq
  unfold isE at hq
  simp only [Bool.and_eq_true,decide_eq_true_eq] at hq
  exact ⟨p,j,hp',by omega,hq.1,hq.2⟩
 ·rintro ⟨p,n,hp,hn,h1,h2⟩
  refine ⟨p,by simpa using hp,?_⟩
  rw [List.getElem_map,List.countP_pos_iff]
  have hs:m.sp[p] = spN m p:=by
   have:=spN_at hp
   rw [List.getElem?_eq_getElem hp] at this
   exact Option.some.inj this
  refine ⟨ent m p n,?_,by unfold isE; rw [h1,h2]; simp⟩
  rw [hs]
  have h5:=flat_at (spN m p).tb n.toNat (by omega)
  rw [Int.toNat_of_nonneg hn.1] at h5
  exact List.mem_of_getElem? h5
theorem frN_at {m:Ma} {f:Nat} (h:f < m.m.fs.length):m.m.fs[f]? = some (frN m f):=by
 unfold frN; rw [List.getD_eq_getElem?_getD,List.getElem?_eq_getElem h]; rfl
theorem frN_mem {m:Ma} {f:Nat} (h:f < m.m.fs.length):frN m f ∈ m.m.fs:=List.mem_of_getElem? (frN_at h)
theorem frN_out {m:Ma} {f:Nat} (h:m.m.fs.length ≤ f):frN m f = fr0:=by
 unfold frN; rw [List.getD_eq_getElem?_getD,List.getElem?_eq_none h]; rfl
theorem frN_set {m:Ma} {f:Nat} {x:Fr} (h:f < m.m.fs.length) (g:Nat):frN (setFr m f x) g = if g = f then x else frN m g:=by
 unfold frN setFr
 simp only
 rw [List.getD_eq_getElem?_getD,List.getElem?_set]
 by_cases e:g = f
 ·subst e; rw [if_pos rfl,if_pos h,if_pos rfl]; rfl
 ·rw [if_neg (fun e'=>e e'.symm),if_neg e,List.getD_eq_getElem?_getD]
theorem setFr_len {m:Ma} {f:Nat} {x:Fr}:(setFr m f x).m.fs.length = m.m.fs.length:=List.length_set
theorem Pt.frE {m:Ma} (h:Pt m) {f:Nat} (hf:f < m.m.fs.length):frameE (frN m f) = 0:=((wrongM_iff _).1 h.fr).2.1 _ (frN_mem hf)
theorem Pt.setFr {m:Ma} (h:Pt m) {f:Nat} {x:Fr} (hx:frameE x = 0):Pt (setFr m f x):={ h with fr:=set_ok h.fr hx }
theorem heldF_ok {x:Fr} {n:Int} (h:frameE x = 0) (hr:x.r ≠ 0) (h1 : -x.r ≤ n) (h2:n ≤ 1000 - x.r):frameE (heldF x n) = 0:=by
 unfold heldF
 by_cases h0:x.r + n = 0
 ·rw [if_pos h0]; decide
 ·rw [if_neg h0,frameE_iff]
  have:=(frameE_iff x).1 h
  refine ⟨by simp only; omega,fun h3=>absurd h3 h0,this.2.2⟩
theorem holdE_ok {m:Mem} {k n:Int} (h:wrongM m = 0) (hk:0 ≤ k ∧ k < m.fs.length) (hr:(m.fs.getD k.toNat fr0).r ≠ 0) (h1 : -(m.fs.getD k.toNat fr0).r ≤ n) (h2:n ≤ 1000 - (m.fs.getD k.toNat fr0).r):holdE m k n = 0:=by
 unfold holdE
 rw [if_neg (by rw [h]; simp),if_neg (by omega),if_neg (by omega)]
theorem fhold_ok {k:Kp} {f:Nat} {n:Int} (h:Pt k.m) (hf:f < k.m.m.fs.length) (hr:(frN k.m f).r ≠ 0) (h1 : -(frN k.m f).r ≤ n) (h2:n ≤ 1000 - (frN k.m f).r) :
  fholdK k f n = ⟨setFr k.m f (heldF (frN k.m f) n),k.e⟩ ∧ Pt (setFr k.m f (heldF (frN k.m f) n)):=by
 have h0:holdE k.m.m (f:Int) n = 0:=holdE_ok h.fr (by omega) hr h1 h2
 refine ⟨?_,h.setFr (heldF_ok (h.frE hf) hr h1 h2)⟩
 unfold fholdK
 rw [if_pos h0]
 congr 1
 unfold holdM
 rw [if_pos h0]
 rfl
def slN (m:Ma) (s:Nat):Int:=m.sl.getD s 0
def setSl (m:Ma) (s:Nat) (n:Int):Ma:={ m with sl:=m.sl.set s n }
theorem slN_at {m:Ma} {f:Nat} (h:f < m.sl.length):m.sl[f]? = some (slN m f):=by
 unfold slN; rw [List.getD_eq_getElem?_getD,List.getElem?_eq_getElem h]; rfl
theorem slN_set {m:Ma} {f:Nat} {x:Int} (h:f < m.sl.length) (g:Nat):slN (setSl m f x) g = if g = f then x else slN m g:=by
 unfold slN setSl
 simp only
 rw [List.getD_eq_getElem?_getD,List.getElem?_set]
 by_cases e:g = f
 ·subst e; rw [if_pos rfl,if_pos h,if_pos rfl]; rfl
 ·rw [if_neg (fun e'=>e e'.symm),if_neg e,List.getD_eq_getElem?_getD]
theorem Pt.slB {m:Ma} (h:Pt m) (s:Nat):0 ≤ slN m s ∧ slN m s ≤ 1000:=by
 rcases Nat.lt_or_ge s m.sl.length with hs | hs
 ·have:=wrongS_mem h.sl _ (List.mem_of_getElem? (slN_at hs))
  unfold badN at this
  simp only [Bool.or_eq_false_iff,decide_eq_false_iff_not] at this
  omega
 ·unfold slN; rw [List.getD_eq_getElem?_getD,List.getElem?_eq_none hs]; simp
theorem Pt.setSl {m:Ma} (h:Pt m) {s:Nat} {n:Int} (h0:0 ≤ n) (h1:n ≤ 1000):Pt (setSl m s n):=
 { h with sl:=wrongS_set s n h.sl h0 h1,swl:=h.swl.trans List.length_set.symm }
theorem shold_ok' {k:Kp} {s:Nat} {n:Int} (h:Pt k.m) (hs:s < k.m.sl.length) (hr:slN k.m s ≠ 0) (h1 : -(slN k.m s) ≤ n) (h2:n ≤ 1000 - slN k.m s) :
  sholdK k s n = ⟨setSl k.m s (slN k.m s + n),k.e⟩ ∧ Pt (setSl k.m s (slN k.m s + n)):=by
 have e1:atI k.m.sl (s:Int) = slN k.m s:=rfl
 have h0:sholdE k.m.sl (s:Int) n = 0:=by
  unfold sholdE
  rw [if_neg (by rw [h.sl]; simp),if_neg (by rw [e1]; omega),if_neg (by rw [e1]; omega)]
 refine ⟨?_,h.setSl (by omega) (by omega)⟩
 unfold sholdK
 rw [if_pos h0]
 congr 1
 unfold holdL
 rw [if_pos h0]
 rfl
theorem enter_ok {k:Kp} {p:Nat} {n:Int} {x:En} (h:Pt k.m) (hn:0 ≤ n ∧ n < 64) (hx:entE x = 0) :
  setE (spN k.m p).tb n x = 0 ∧ enterK k p n x = ⟨setTb k.m p (setT (spN k.m p).tb n x),k.e⟩ ∧ Pt (setTb k.m p (setT (spN k.m p).tb n x)):=by
 have h0:=setE_ok (h.tbN p) hn hx
 refine ⟨h0,?_,h.setTb (setT_right h0)⟩
 unfold enterK
 rw [if_pos h0]
theorem ent_set {m:Ma} {p:Nat} {n:Int} {x:En} (hp:p < m.sp.length) (h:setE (spN m p).tb n x = 0) (q:Nat) (j:Int):ent (setTb m p (setT (spN m p).tb n x)) q j = if q = p ∧ j = n then x else ent m q j:=by
 rw [ent_setTb hp]
 by_cases e:q = p
 ·subst e
  rw [if_pos rfl,setT_get h]
  by_cases e2:j = n
  ·rw [if_pos e2,if_pos ⟨rfl,e2⟩]
  ·rw [if_neg e2,if_neg (fun h'=>e2 h'.2)]; rfl
 ·rw [if_neg e,if_neg (fun h'=>e h'.1)]
structure Skel (m m' : Ma):Prop where
 len:m'.sp.length = m.sp.length
 lv:∀ p,(spN m' p).lv = (spN m p).lv
 ar:∀ p,(spN m' p).ar = (spN m p).ar
theorem Skel.refl (m:Ma):Skel m m:=⟨rfl,fun _=>rfl,fun _=>rfl⟩
theorem Skel.trans {a b c:Ma} (h:Skel a b) (k:Skel b c):Skel a c:=⟨k.len.trans h.len,fun p=>(k.lv p).trans (h.lv p),fun p=>(k.ar p).trans (h.ar p)⟩
theorem Skel.of {m m' : Ma} (h:m'.sp = m.sp):Skel m m':=⟨by rw [h],fun p=>by unfold spN; rw [h],fun p=>by unfold spN; rw [h]⟩
theorem Skel.setTb {m:Ma} {p:Nat} {t:Tb}:Skel m (setTb m p t):=by
 by_cases hp:p < m.sp.length
 ·refine ⟨setTb_len,fun q => ?_,fun q => ?_⟩
  all_goals
   rw [spN_setTb hp]
   by_cases e:q = p
   ·rw [if_pos e,e]
   ·rw [if_neg e]
 ·have:Go.Proofs.Ytkjobhcnlppcnaa.setTb m p t = m:=by
   unfold Go.Proofs.Ytkjobhcnlppcnaa.setTb
   rw [List.set_eq_of_length_le (by omega)]
  rw [this]; exact .refl _
theorem nodup_map {α β:Type} {f:α → β} (hf:∀ a b,f a = f b → a = b) {l:List α} (h:l.Nodup):(l.map f).Nodup:=List.Pairwise.map _ (fun a b hne e=>hne (hf a b e)) h
theorem mem_pages {t:Tb} {n:Int}:n ∈ pagesL t ↔ (0 ≤ n ∧ n < 64) ∧ (getT t n).k ≠ 0:=by
 unfold pagesL pagesTo
 simp only [List.mem_map,List.mem_filter,List.mem_range,hasK,decide_eq_true_eq]
 constructor
 ·rintro ⟨j,⟨h1,h2⟩,rfl⟩
  exact ⟨by omega,h2⟩
 ·rintro ⟨h1,h2⟩
  refine ⟨n.toNat,⟨by omega,?_⟩,by omega⟩
  rw [Int.toNat_of_nonneg h1.1]; exact h2
theorem pages_nodup (t:Tb):(pagesL t).Nodup:=by
 unfold pagesL pagesTo
 exact nodup_map (fun a b h=>by have h' : (a:Int) = b:=h; omega) (List.nodup_range.filter _)
theorem find_len {t:Tb} {kd i:Int} (hk:kd ≠ 0):(findL t kd i).length = (flatL t).countP (isE kd i):=by
 unfold findL pagesL pagesTo flatL
 rw [← List.countP_eq_length_filter,List.countP_map,List.countP_filter,List.countP_map]
 congr 1
 funext n
 simp only [Function.comp_apply,otherF,isE,hasK,Bool.not_or]
 rw [Bool.eq_iff_iff]
 simp only [Bool.and_eq_true,Bool.not_eq_true',decide_eq_false_iff_not,Classical.not_not,decide_eq_true_eq]
 constructor
 ·rintro ⟨h,_⟩; exact h
 ·intro h; exact ⟨h,by rw [h.1]; exact hk⟩
def inF (s:St) (f i:Int):Prop:=(0 ≤ f ∧ f < s.fs.length) ∧ 0 ≤ i ∧ i < (fileAt s f).b.length
theorem fileAt_nat {s:St} {F:Nat} {x:Fi} (h:s.fs[F]? = some x):fileAt s F = x:=by
 unfold fileAt
 rw [if_pos (by omega),Int.toNat_natCast,List.getD_eq_getElem?_getD,h]; rfl
theorem file_get {s:St} {f:Int} (h:0 ≤ f ∧ f < s.fs.length):s.fs[f.toNat]? = some (fileAt s f):=by
 unfold fileAt
 rw [if_pos h.1,List.getD_eq_getElem?_getD,List.getElem?_eq_getElem (by omega)]; rfl
theorem file_ok {s:St} (h:wrongSt s = 0) {f:Int} (hf:0 ≤ f ∧ f < s.fs.length):fileOk s.count (fileAt s f):=(wrongSt_iff.1 h).2.1 _ (List.mem_of_getElem? (file_get hf))
theorem inF_lt {s:St} (h:wrongSt s = 0) {f i:Int} (hi:inF s f i):f < 5 ∧ i < 12 ∧ i * 8 < (fileAt s f).n ∧ (fileAt s f).n ≤ 96:=by
 have h1:=(wrongSt_iff.1 h).1
 obtain ⟨a1,a2,a3,_⟩:=file_ok h hi.1
 have h2:=hi.1; have h3:=hi.2
 rw [a3] at h3
 unfold countS at h3
 split at h3 <;> omega
theorem inF.same {s s' : St} {f i:Int} (h:inF s f i) (h1:s'.fs.length = s.fs.length) (h2:∀ g,(fileAt s' g).b.length = (fileAt s g).b.length):inF s' f i:=⟨by rw [h1]; exact h.1,by rw [h2]; exact h.2⟩
def pgA (m:Ma) (p:Nat) (n:Int):Option Pg:=onA (spN m p).ar n
def ltC (a b:Cc):Prop:=a.f < b.f ∨ a.f = b.f ∧ a.i < b.i
def FitF (x:Fr) (g:Pg) (w:Bool):Prop:=
 (0 ≤ x.f → x.f = g.fi ∧ x.i = g.pg) ∧ (g.sh = true → 0 ≤ x.f) ∧ (w = true → g.wr = true) ∧ (w = true → 0 ≤ x.f → g.sh = true) ∧ (w = true → x.f < 0 → x.r ≤ 1)
structure FitE (m:Ma) (g:Pg) (e:En):Prop where
 sw:e.k = 2 → e.n < m.sl.length ∧ g.sh = false
 lt:e.k = 1 → e.n < m.m.fs.length
 fr:e.k = 1 → FitF (frN m e.n.toNat) g e.w
structure CaOk (m:Ma):Prop where
 file:∀ c ∈ m.ca,inF m.st c.f c.i
 lt:∀ c ∈ m.ca,0 ≤ c.k ∧ c.k < m.m.fs.length
 fr:∀ c ∈ m.ca,1 ≤ (frN m c.k.toNat).r ∧ (frN m c.k.toNat).f = c.f ∧ (frN m c.k.toNat).i = c.i
 srt:m.ca.Pairwise ltC
def caN (m:Ma) (i:Int):Nat:=m.ca.countP fun c=>decide (c.k = i)
structure Rt (m:Ma):Prop where
 pt:Pt m
 trim:(∀ b:Int,0 ≤ b → b < m.dk.blocks.length → b ∈ blks m.st ∨ m.dk.blocks.getD b.toNat zPg = zPg) ∧ ∀ q ∈ m.dk.queue,q.1 ∈ blks m.st
 live:∀ p,(spN m p).lv = false → (spN m p).ar = [] ∧ ∀ n,(ent m p n).k = 0
 ca:CaOk m
 en:∀ p n,(ent m p n).k ≠ 0 → ∃ g,pgA m p n = some g ∧ FitE m g (ent m p n)
 cf:∀ i:Nat,i < m.m.fs.length → (frN m i).r = caN m i + holdN m 1 i
 fc:∀ i:Nat,i < m.m.fs.length → 0 ≤ (frN m i).f → ∃ c ∈ m.ca,c.k = i
 cs:∀ s:Nat,s < m.sl.length → slN m s = holdN m 2 s
structure Co (m:Ma):Prop where
 tail:∀ c ∈ m.ca,cutPage (frN m c.k.toNat).p ((fileAt m.st c.f).n - c.i * 8) = (frN m c.k.toNat).p
 clean:∀ c ∈ m.ca,(frN m c.k.toNat).d = false → (frN m c.k.toNat).p = diskP m c.f c.i
 anon:∀ i:Nat,i < m.m.fs.length → (frN m i).d = true → 0 ≤ (frN m i).f
def seeN (m:Ma) (p:Nat) (n:Int):Page × Bool × Int:=
 match pgA m p n with
 | none=>(zPg,false,5)
 | some g=>
  if (ent m p n).k = 1 then ((frAt m (ent m p n).n).p,decide ((frAt m (ent m p n).n).f < 0),0)
  else if (ent m p n).k = 2 then (readP m.sw (ent m p n).n,true,wrong_or m.sw (ent m p n).n)
  else if g.fi < 0 then (zPg,false,0)
  else if (m.st.fs.length:Int) ≤ g.fi ∨ endB m.st g.fi g.pg = true then (zPg,false,9)
  else (contentP m g.fi g.pg,false,0)
theorem ltC_irr (a:Cc):¬ ltC a a:=fun h=>by unfold ltC at h; omega
theorem srt_eq:∀ {l:List Cc},l.Pairwise ltC → ∀ {a b:Cc},a ∈ l → b ∈ l → a.f = b.f → a.i = b.i → a = b
 | [],_,_,_,h,_,_,_=>by cases h
 | c :: l,hs,a,b,ha,hb,e1,e2=>by
  obtain ⟨h1,h2⟩:=List.pairwise_cons.1 hs
  rcases List.mem_cons.1 ha with e | ha <;> rcases List.mem_cons.1 hb with e' | hb
  ·rw [e,e']
  ·have:=h1 b hb; rw [e] at e1 e2; unfold ltC at this; omega
  ·have:=h1 a ha; rw [e'] at e1 e2; unfold ltC at this; omega
  ·exact srt_eq h2 ha hb e1 e2
theorem CaOk.uniq {m:Ma} (h:CaOk m) {a b:Cc} (ha:a ∈ m.ca) (hb:b ∈ m.ca) (hk:a.k = b.k):a = b:=by
 have h1:=h.fr a ha
 have h2:=h.fr b hb
 rw [hk] at h1
 exact srt_eq h.srt ha hb (h1.2.1.symm.trans h2.2.1) (h1.2.2.symm.trans h2.2.2)
theorem srt_count {k:Int}:∀ {l:List Cc},l.Pairwise ltC → (∀ a ∈ l,∀ b ∈ l,a.k = b.k → a = b) → l.countP (fun c=>decide (c.k = k)) ≤ 1
 | [],_,_=>Nat.zero_le _
 | c :: l,hs,hu=>by
  obtain ⟨h1,h2⟩:=List.pairwise_cons.1 hs
  have ih:=srt_count (k:=k) h2 (fun a ha b hb=>hu a (List.mem_cons_of_mem _ ha) b (List.mem_cons_of_mem _ hb))
  rw [List.countP_cons]
  by_cases hc:c.k = k
  ·rw [if_pos (by simpa using hc)]
   have:l.countP (fun c=>decide (c.k = k)) = 0:=by
    rw [List.countP_eq_zero]
    intro d hd hdk
    have e:=hu c List.mem_cons_self d (List.mem_cons_of_mem _ hd) (by rw [hc]; exact (of_decide_eq_true hdk).symm)
    have:=h1 d hd
    rw [← e] at this
    exact ltC_irr _ this
   omega
  ·rw [if_neg (by simpa using hc)]; omega
theorem CaOk.one {m:Ma} (h:CaOk m) {c:Cc} (hc:c ∈ m.ca):caN m c.k = 1:=by
 have h1:=srt_count (k:=c.k) h.srt (fun a ha b hb=>h.uniq ha hb)
 have h2:0 < m.ca.countP (fun d=>decide (d.k = c.k)):=List.countP_pos_iff.2 ⟨c,hc,by simp⟩
 unfold caN; omega
theorem geC_iff {f i:Int} {c:Cc}:geC f i c = true ↔ f < c.f ∨ c.f = f ∧ i ≤ c.i:=by unfold geC; simp
theorem at_le (l:List Cc) (f i:Int):atC l f i ≤ l.length:=by
 unfold atC
 cases h:l.findIdx? (geC f i) with
 | none=>exact Nat.le_refl _
 | some k=>exact Nat.le_of_lt (List.findIdx?_eq_some_iff_getElem.1 h).1
def lookC (m:Ma) (f i:Int):Option Cc:=m.ca.find? fun c=>decide (c.f = f) && decide (c.i = i)
theorem look_some {m:Ma} (h:CaOk m) {c:Cc} (hc:c ∈ m.ca):lookC m c.f c.i = some c:=by
 cases hl:lookC m c.f c.i with
 | none=>
  have:=List.find?_eq_none.1 hl c hc
  simp at this
 | some d=>
  have h1:=List.find?_some hl
  simp only [Bool.and_eq_true,decide_eq_true_eq] at h1
  rw [srt_eq h.srt (List.mem_of_find?_eq_some hl) hc h1.1 h1.2]
theorem look_none {m:Ma} {f i:Int} (h:∀ c ∈ m.ca,¬ (c.f = f ∧ c.i = i)):lookC m f i = none:=by
 unfold lookC
 rw [List.find?_eq_none]
 intro c hc hk
 simp only [Bool.and_eq_true,decide_eq_true_eq] at hk
 exact h c hc hk
theorem look_cases (m:Ma) (f i:Int):(∃ c,lookC m f i = some c ∧ c ∈ m.ca ∧ c.f = f ∧ c.i = i) ∨ (lookC m f i = none ∧ ∀ c ∈ m.ca,¬ (c.f = f ∧ c.i = i)):=by
 cases hl:lookC m f i with
 | none=>
  refine .inr ⟨rfl,fun c hc hk => ?_⟩
  have:=List.find?_eq_none.1 hl c hc
  simp only [Bool.and_eq_true,decide_eq_true_eq] at this
  exact this hk
 | some d=>
  have h1:=List.find?_some hl
  simp only [Bool.and_eq_true,decide_eq_true_eq] at h1
  exact .inl ⟨d,rfl,List.mem_of_find?_eq_some hl,h1⟩
theorem content_eq (m:Ma) (f i:Int):contentP m f i = match lookC m f i with
  | some c=>(frAt m c.k).p
  | none=>diskP m f i:=rfl
theorem content_in {m:Ma} (h:CaOk m) {c:Cc} (hc:c ∈ m.ca):contentP m c.f c.i = (frN m c.k.toNat).p:=by
 rw [content_eq,look_some h hc]; rfl
theorem content_out {m:Ma} {f i:Int} (h:∀ c ∈ m.ca,¬ (c.f = f ∧ c.i = i)):contentP m f i = diskP m f i:=by
 rw [content_eq,look_none h]
theorem frAt_nat {m:Ma} (k:Nat):frAt m (k:Int) = frN m k:=rfl
theorem find_pg {l:List Ar} {n:Int} (h:0 ≤ findA l n):onA l n = some (pgOf (l.getD (findA l n).toNat zAr) n) ∧ inA n (l.getD (findA l n).toNat zAr) = true:=by
 induction l with
 | nil=>unfold findA idx at h; simp at h
 | cons a r ih=>
  rw [onA_cons]
  by_cases ha:inA n a = true
  ·have h0:findA (a :: r) n = 0:=by unfold findA idx; rw [List.findIdx?_cons,if_pos ha]; rfl
   rw [h0,if_pos ha]
   exact ⟨rfl,ha⟩
  ·have h1:findA (a :: r) n = if 0 ≤ findA r n then findA r n + 1 else -1:=by
    unfold findA idx
    rw [List.findIdx?_cons,if_neg ha]
    cases r.findIdx? (inA n) with
    | none=>rfl
    | some k=>
     simp only [Option.map_some]
     rw [if_pos (by omega)]
     rfl
   rw [if_neg ha]
   by_cases h2:0 ≤ findA r n
   ·rw [h1,if_pos h2]
    have e:(findA r n + 1).toNat = (findA r n).toNat + 1:=by omega
    rw [e]
    exact ih h2
   ·rw [h1,if_neg h2] at h
    omega
def seeE (m:Ma) (g:Pg) (e:En):Page × Bool × Int:=
 if e.k = 1 then ((frAt m e.n).p,decide ((frAt m e.n).f < 0),0)
 else if e.k = 2 then (readP m.sw e.n,true,wrong_or m.sw e.n)
 else if g.fi < 0 then (zPg,false,0)
 else if (m.st.fs.length:Int) ≤ g.fi ∨ endB m.st g.fi g.pg = true then (zPg,false,9)
 else (contentP m g.fi g.pg,false,0)
theorem seeN_some {m:Ma} {p:Nat} {n:Int} {g:Pg} (h:pgA m p n = some g):seeN m p n = seeE m g (ent m p n):=by
 unfold seeN; rw [h]; rfl
theorem seeN_none {m:Ma} {p:Nat} {n:Int} (h:pgA m p n = none):seeN m p n = (zPg,false,5):=by
 unfold seeN; rw [h]
theorem pg_in:∀ {l:List Ar} {lo:Int} {n:Int} {g:Pg},srtF lo l → onA l n = some g → 0 ≤ g.pg ∧ g.pg < 12 ∧ -1 ≤ g.fi ∧ g.fi < 5 ∧ (g.fi < 0 → g.sh = false ∧ g.pg = 0) ∧ 0 ≤ n ∧ n < 64
 | [],_,_,_,_,h=>by cases h
 | a :: r,lo,n,g,hs,h=>by
  rw [onA_cons] at h
  by_cases ha:inA n a = true
  ·rw [if_pos ha] at h
   have h1:=inA_iff.1 ha
   have h2:=hs.1
   unfold areaE at h2
   split at h2
   ·cases h2
   ·split at h2
    ·cases h2
    ·rename_i h3 h4
     cases h
     unfold pgOf
     simp only
     have h5:¬ (a.fi < 0 ∧ (a.ba ≠ 0 ∨ a.sh = true)):=fun h=>h4 (.inl h)
     have h6:¬ (0 ≤ a.fi ∧ 12 - (a.en - a.fr) < a.ba):=fun h=>h4 (.inr h)
     refine ⟨?_,?_,by omega,by omega,fun h7=>⟨?_,if_neg (by omega)⟩,by omega,by omega⟩
     ·split <;> omega
     ·split <;> omega
     ·cases hsh:a.sh with
      | false=>rfl
      | true=>exact absurd ⟨h7,.inr hsh⟩ h5
  ·rw [if_neg ha] at h
   exact pg_in hs.2.2 h
theorem Pt.pg {m:Ma} (h:Pt m) {p:Nat} {n:Int} {g:Pg} (hg:pgA m p n = some g):0 ≤ g.pg ∧ g.pg < 12 ∧ -1 ≤ g.fi ∧ g.fi < 5 ∧ (g.fi < 0 → g.sh = false ∧ g.pg = 0) ∧ 0 ≤ n ∧ n < 64:=
 pg_in (okF_srt0 (wrongA_iff.1 (h.arN p)).2) hg
theorem not_end {s:St} (h:wrongSt s = 0) {f i:Int} (hf:0 ≤ f) (hi:0 ≤ i) (hn:¬ ((s.fs.length:Int) ≤ f ∨ endB s f i = true)):inF s f i:=by
 have h1:¬ (s.fs.length:Int) ≤ f:=fun h=>hn (.inl h)
 have h2:¬ endB s f i = true:=fun h=>hn (.inr h)
 have h3:=(file_ok h (f:=f) (by omega)).2.2.1
 refine ⟨by omega,hi,?_⟩
 rw [h3]
 unfold endB at h2
 simpa using h2
structure Files (s s' : St):Prop where
 len:s'.fs.length = s.fs.length
 size:∀ f,(fileAt s' f).n = (fileAt s f).n
 lenb:∀ f,(fileAt s' f).b.length = (fileAt s f).b.length
theorem Files.refl (s:St):Files s s:=⟨rfl,fun _=>rfl,fun _=>rfl⟩
theorem endB_same {s s' : St} (h:Files s s') (f i:Int):endB s' f i = endB s f i:=by unfold endB; rw [h.size]
theorem see_same {m m' : Ma} {g:Pg} {e:En} (hw:wrongSt m.st = 0) (hg:0 ≤ g.pg) (hf:Files m.st m'.st) (hc:∀ f i,inF m.st f i → contentP m' f i = contentP m f i)
  (h1:e.k = 1 → (frAt m' e.n).p = (frAt m e.n).p ∧ (frAt m' e.n).f = (frAt m e.n).f) (h2:e.k = 2 → readP m'.sw e.n = readP m.sw e.n ∧ wrong_or m'.sw e.n = wrong_or m.sw e.n):seeE m' g e = seeE m g e:=by
 unfold seeE
 by_cases k1:e.k = 1
 ·rw [if_pos k1,if_pos k1,(h1 k1).1,(h1 k1).2]
 ·rw [if_neg k1,if_neg k1]
  by_cases k2:e.k = 2
  ·rw [if_pos k2,if_pos k2,(h2 k2).1,(h2 k2).2]
  ·rw [if_neg k2,if_neg k2,hf.len,endB_same hf]
   by_cases g0:g.fi < 0
   ·rw [if_pos g0,if_pos g0]
   ·rw [if_neg g0,if_neg g0]
    by_cases he:(m.st.fs.length:Int) ≤ g.fi ∨ endB m.st g.fi g.pg = true
    ·rw [if_pos he,if_pos he]
    ·rw [if_neg he,if_neg he,hc _ _ (not_end hw (by omega) hg he)]
theorem zTb_get (n:Int):getT zTb n = zEn:=by
 by_cases h:0 ≤ n ∧ n < 64
 ·obtain ⟨q,r,hq,hr,rfl,_,_⟩:=split64 h
  exact getT_none hq hr (by simp [zTb])
 ·exact getT_out (by omega)
theorem frN_of {m m' : Ma} (h:m'.m = m.m) (g:Nat):frN m' g = frN m g:=by unfold frN; rw [h]
theorem ent_in {m:Ma} {p:Nat} {n:Int} (h:(ent m p n).k ≠ 0):p < m.sp.length ∧ 0 ≤ n ∧ n < 64:=by
 refine ⟨?_,?_⟩
 ·rcases Nat.lt_or_ge p m.sp.length with hp | hp
  ·exact hp
  ·refine absurd ?_ h
   unfold ent
   rw [spN_out hp,show zSp.tb = zTb from rfl,zTb_get]; rfl
 ·by_cases hn:n < 0 ∨ 64 ≤ n
  ·exact absurd (by rw [ent_out p hn]; rfl) h
  ·omega
theorem idx_nat {α:Type} {q:α → Bool} {l:List α} (h:0 ≤ idx q l):∃ k:Nat,idx q l = k ∧ ∃ hk:k < l.length,q l[k] = true:=by
 unfold idx at h ⊢
 cases hf:l.findIdx? q with
 | none=>rw [hf] at h; simp at h
 | some k=>
  obtain ⟨hk,hq,_⟩:=List.findIdx?_eq_some_iff_getElem.1 hf
  exact ⟨k,rfl,hk,hq⟩
theorem cut_cut (p:Page) (n:Int):cutPage (cutPage p n) n = cutPage p n:=by
 apply Vector.ext
 intro i hi
 simp only [cutPage,Vector.getElem_ofFn]
 split <;> rfl
theorem cut_zero (n:Int):cutPage zPg n = zPg:=by
 apply Vector.ext
 intro i hi
 simp only [cutPage,Vector.getElem_ofFn]
 have hz:zPg[i] = 0:=by
  match i,hi with
  | 0,_=>rfl
  | 1,_=>rfl
  | 2,_=>rfl
  | 3,_=>rfl
  | 4,_=>rfl
  | 5,_=>rfl
  | 6,_=>rfl
  | 7,_=>rfl
  | n + 8,h=>omega
 split <;> rw [hz]
theorem disk_tail (m:Ma) (f i:Int):cutPage (diskP m f i) ((fileAt m.st f).n - i * 8) = diskP m f i:=by
 unfold diskP
 split
 ·exact cut_cut _ _
 ·exact cut_zero _
theorem insert_srt {f i k:Int}:∀ {l:List Cc},l.Pairwise ltC → (∀ c ∈ l,¬ (c.f = f ∧ c.i = i)) → (l.insertIdx (atC l f i) ⟨f,i,k⟩).Pairwise ltC
 | [],_,_=>by simp [atC]
 | c :: l,hs,hno=>by
  obtain ⟨h1,h2⟩:=List.pairwise_cons.1 hs
  have hnc:=hno c List.mem_cons_self
  by_cases hg:geC f i c = true
  ·have:atC (c :: l) f i = 0:=by unfold atC; rw [List.findIdx?_cons,if_pos hg]; rfl
   rw [this,List.insertIdx_zero]
   have hlt:ltC ⟨f,i,k⟩ c:=by
    have:=geC_iff.1 hg
    unfold ltC
    simp only
    omega
   refine List.pairwise_cons.2 ⟨fun d hd => ?_,hs⟩
   rcases List.mem_cons.1 hd with rfl | hd
   ·exact hlt
   ·have:=h1 d hd
    unfold ltC at this hlt ⊢
    omega
  ·have:atC (c :: l) f i = atC l f i + 1:=by
    unfold atC
    rw [List.findIdx?_cons,if_neg hg]
    cases l.findIdx? (geC f i) <;> rfl
   rw [this,List.insertIdx_succ_cons]
   refine List.pairwise_cons.2 ⟨fun d hd => ?_,insert_srt h2 fun d hd=>hno d (List.mem_cons_of_mem _ hd)⟩
   rcases (List.mem_insertIdx (at_le l f i)).1 hd with rfl | hd
   ·have:¬ (f < c.f ∨ c.f = f ∧ i ≤ c.i):=fun h=>hg (geC_iff.2 h)
    unfold ltC
    simp only
    omega
   ·exact h1 d hd
theorem countP_insert {α:Type} (q:α → Bool) (x:α):∀ (l:List α) (j:Nat),j ≤ l.length → (l.insertIdx j x).countP q = l.countP q + b2n (q x)
 | l,0,_=>by rw [List.insertIdx_zero,List.countP_cons]; rfl
 | [],j + 1,h=>by simp at h
 | a :: l,j + 1,h=>by
  rw [List.insertIdx_succ_cons,List.countP_cons,List.countP_cons,countP_insert q x l j (by simpa using h)]
  omega
theorem firstE_zero:∀ {l:List Int},firstE l = 0 ↔ ∀ x ∈ l,x = 0
 | []=>by simp [firstE]
 | x :: l=>by
  unfold firstE
  by_cases hx:x = 0
  ·rw [if_pos hx,firstE_zero]
   constructor
   ·intro h y hy
    rcases List.mem_cons.1 hy with e | hy
    ·rw [e,hx]
    ·exact h y hy
   ·exact fun h y hy=>h y (List.mem_cons_of_mem _ hy)
  ·rw [if_neg hx]
   exact ⟨fun h=>absurd h hx,fun h=>absurd (h x List.mem_cons_self) hx⟩
theorem ite_ne {p:Prop} [Decidable p] {a b:Int} (ha:a ≠ 0):(if p then a else b) = 0 ↔ ¬ p ∧ b = 0:=by
 by_cases h:p
 ·rw [if_pos h]; exact ⟨fun h'=>absurd h' ha,fun h'=>absurd h h'.1⟩
 ·rw [if_neg h]; exact ⟨fun h'=>⟨h,h'⟩,fun h'=>h'.2⟩
theorem ite_self {a b:Int}:(if a ≠ 0 then a else b) = 0 ↔ a = 0 ∧ b = 0:=by
 by_cases h:a = 0
 ·rw [if_neg (fun h'=>h' h)]; exact ⟨fun h'=>⟨h,h'⟩,fun h'=>h'.2⟩
 ·rw [if_pos h]; exact ⟨fun h'=>absurd h' h,fun h'=>absurd h'.1 h⟩
theorem spaceE_zero {s:Sp}:spaceE s = 0 ↔ (wrongA s.ar).1 = 0 ∧ wrongT s.tb = 0 ∧ (s.lv = false → s.ar = [] ∧ ∀ n,(getT s.tb n).k = 0):=by
 unfold spaceE
 rw [ite_self,ite_self,ite_ne (by decide)]
 refine and_congr_right fun _=>and_congr_right fun _ => ?_
 constructor
 ·rintro ⟨h,_⟩ hl
  have h1:s.ar.length + (pagesL s.tb).length = 0:=by
   rcases Nat.eq_zero_or_pos (s.ar.length + (pagesL s.tb).length) with h0 | h0
   ·exact h0
   ·exact absurd ⟨hl,h0⟩ h
  refine ⟨List.eq_nil_of_length_eq_zero (by omega),fun n => ?_⟩
  by_cases hn:0 ≤ n ∧ n < 64
  ·have h2:pagesL s.tb = []:=List.eq_nil_of_length_eq_zero (by omega)
   by_cases hk:(getT s.tb n).k = 0
   ·exact hk
   ·have:=mem_pages.2 ⟨hn,hk⟩
    rw [h2] at this; cases this
  ·rw [getT_out (by omega)]; rfl
 ·refine fun h=>⟨?_,rfl⟩
  rintro ⟨hl,h0⟩
  obtain ⟨h1,h2⟩:=h hl
  have h3:pagesL s.tb = []:=by
   rw [List.eq_nil_iff_forall_not_mem]
   intro n hn
   exact (mem_pages.1 hn).2 (h2 n)
  rw [h1,h3] at h0
  exact absurd h0 (by simp)
theorem trimB_iff {m:Ma}:trimB m = true ↔ (∀ b:Int,0 ≤ b → b < m.dk.blocks.length → b ∈ blks m.st ∨ m.dk.blocks.getD b.toNat zPg = zPg) ∧ ∀ q ∈ m.dk.queue,q.1 ∈ blks m.st:=by
 unfold trimB
 rw [Bool.and_eq_true,List.all_eq_true,List.all_eq_true]
 refine and_congr ⟨fun h b h0 hb => ?_,fun h b hb => ?_⟩ ⟨fun h q hq=>by simpa using h q hq,fun h q hq=>by simpa using h q hq⟩
 ·have:=h b.toNat (List.mem_range.2 (by omega))
  rw [Int.toNat_of_nonneg h0] at this
  simpa using this
 ·have:=h (b:Int) (by omega) (by have:=List.mem_range.1 hb; omega)
  simpa using this
theorem partsE_zero {m:Ma}:partsE m = 0 ↔ Pt m ∧ trimB m = true ∧ ∀ s ∈ m.sp,s.lv = false → s.ar = [] ∧ ∀ n,(getT s.tb n).k = 0:=by
 unfold partsE
 rw [ite_self,ite_self,ite_self,ite_self,ite_self,ite_ne (by decide),ite_ne (by decide),firstE_zero]
 constructor
 ·rintro ⟨h1,h2,h3,h4,h5,h6,h7,h8⟩
  have h9:∀ s ∈ m.sp,_:=fun s hs=>spaceE_zero.1 (h8 _ (List.mem_map_of_mem hs))
  refine ⟨⟨h1,h2,h3,h4,h5,?_,?_,by omega,fun s hs=>(h9 s hs).1,fun s hs=>(h9 s hs).2.1⟩,?_,fun s hs=>(h9 s hs).2.2⟩
  ·exact Classical.byContradiction fun h=>h6 (.inl h)
  ·exact Classical.byContradiction fun h=>h6 (.inr (.inl h))
  ·cases h:trimB m with
   | true=>rfl
   | false=>exact absurd (.inr (.inr h)) h6
 ·rintro ⟨h,ht,hl⟩
  refine ⟨h.fr,h.sl,h.sw,h.dk,h.st,?_,by have:=h.spl; omega,?_⟩
  ·rintro (h1 | h1 | h1)
   ·exact h1 h.swl
   ·exact h1 h.dkl
   ·rw [ht] at h1; cases h1
  ·intro x hx
   obtain ⟨s,hs,rfl⟩:=List.mem_map.1 hx
   exact spaceE_zero.2 ⟨h.ar s hs,h.tb s hs,hl s hs⟩
theorem cacheE_zero {m:Ma} {p:Option Cc} {c:Cc}:cacheE m p c = 0 ↔ (inF m.st c.f c.i ∧ 0 ≤ c.k ∧ c.k < m.m.fs.length) ∧ (1 ≤ (frN m c.k.toNat).r ∧ (frN m c.k.toNat).f = c.f ∧ (frN m c.k.toNat).i = c.i) ∧ ∀ q,p = some q → ltC q c:=by
 have hfr:frAt m c.k = frN m c.k.toNat:=rfl
 unfold cacheE
 rw [ite_ne (by decide),ite_ne (by decide),hfr]
 refine and_congr ⟨fun h=>⟨⟨by omega,by omega⟩,by omega⟩,fun h=>by obtain ⟨⟨_,_⟩,_⟩:=h; omega⟩ (and_congr ⟨fun h=>by omega,fun h=>by omega⟩ ?_)
 cases p with
 | none=>simp
 | some q=>
  simp only [Option.some.injEq,forall_eq']
  rw [ite_ne (by decide)]
  unfold ltC
  omega
theorem pair_of_next {l:List Cc} (h:∀ k (hk:k + 1 < l.length),ltC (l[k]'(by omega)) l[k + 1]):l.Pairwise ltC:=by
 induction l with
 | nil=>exact List.Pairwise.nil
 | cons a l ih=>
  have ih:=ih fun k hk=>h (k + 1) (by simpa using hk)
  refine List.pairwise_cons.2 ⟨?_,ih⟩
  cases l with
  | nil=>simp
  | cons b l=>
   have h0:ltC a b:=h 0 (by simp)
   intro c hc
   rcases List.mem_cons.1 hc with e | hc
   ·rw [e]; exact h0
   ·have h1:=(List.pairwise_cons.1 ih).1 c hc
    unfold ltC at *; omega
theorem cachedE_zero {m:Ma}:cachedE m = 0 ↔ CaOk m:=by
 unfold cachedE
 rw [firstE_zero]
 constructor
 ·intro h
  have h1:∀ k (hk:k < m.ca.length),cacheE m (prevC m.ca k) m.ca[k] = 0:=fun k hk=>by
   have:=h _ (List.mem_map_of_mem (List.mem_range.2 hk))
   rw [List.getD_eq_getElem?_getD,List.getElem?_eq_getElem hk] at this
   exact this
  have h2:∀ c ∈ m.ca,(inF m.st c.f c.i ∧ 0 ≤ c.k ∧ c.k < m.m.fs.length) ∧ (1 ≤ (frN m c.k.toNat).r ∧ (frN m c.k.toNat).f = c.f ∧ (frN m c.k.toNat).i = c.i):=fun c hc=>by
   obtain ⟨k,hk,rfl⟩:=List.mem_iff_getElem.1 hc
   have:=cacheE_zero.1 (h1 k hk)
   exact ⟨this.1,this.2.1⟩
  refine ⟨fun c hc=>(h2 c hc).1.1,fun c hc=>(h2 c hc).1.2,fun c hc=>(h2 c hc).2,pair_of_next fun k hk => ?_⟩
  refine (cacheE_zero.1 (h1 (k + 1) hk)).2.2 _ ?_
  unfold prevC
  rw [if_neg (by omega),Nat.add_sub_cancel,List.getElem?_eq_getElem]
 ·intro h x hx
  obtain ⟨k,hk,rfl⟩:=List.mem_map.1 hx
  have hk:=List.mem_range.1 hk
  rw [List.getD_eq_getElem?_getD,List.getElem?_eq_getElem hk,Option.getD_some]
  have hm:m.ca[k] ∈ m.ca:=List.getElem_mem hk
  refine cacheE_zero.2 ⟨⟨h.file _ hm,h.lt _ hm⟩,h.fr _ hm,fun q hq => ?_⟩
  unfold prevC at hq
  split at hq
  ·cases hq
  ·rw [List.getElem?_eq_getElem (by omega)] at hq
   rw [← Option.some.inj hq]
   exact List.pairwise_iff_getElem.1 h.srt _ _ (by omega) hk (by omega)
theorem entry_zero {m:Ma} (hp:Pt m) {p:Nat} {n:Int} (hk:(ent m p n).k ≠ 0):entryE m (spN m p) n = 0 ↔ ∃ g,pgA m p n = some g ∧ FitE m g (ent m p n):=by
 have hE:=(entE_iff _).1 (ent_ok hp p n)
 unfold entryE
 rw [ite_ne (by decide)]
 have hon:=find_on (spN m p).ar n
 constructor
 ·rintro ⟨h1,h2⟩
  obtain ⟨h3,h4⟩:=find_pg (l:=(spN m p).ar) (n:=n) (by omega)
  refine ⟨_,h3,?_⟩
  generalize (spN m p).ar.getD (findA (spN m p).ar n).toNat zAr = a at *
  have he:getT (spN m p).tb n = ent m p n:=rfl
  rw [he] at h2
  generalize ent m p n = e at *
  simp only at h2
  by_cases h5:e.k = 2
  ·rw [if_pos h5,ite_ne (by decide)] at h2
   refine ⟨fun _=>⟨by omega,?_⟩,fun h=>by omega,fun h=>by omega⟩
   show a.sh = false
   cases hs:a.sh with
   | false=>rfl
   | true=>exact absurd (.inr hs) h2.1
  ·rw [if_neg h5,ite_ne (by decide),ite_ne (by decide),ite_ne (by decide)] at h2
   have hfr:frAt m e.n = frN m e.n.toNat:=rfl
   rw [hfr] at h2
   obtain ⟨h6,h7,h8,_⟩:=h2
   refine ⟨fun h=>absurd h h5,fun _=>by omega,fun _ => ?_⟩
   show FitF (frN m e.n.toNat) (pgOf a n) e.w
   generalize frN m e.n.toNat = f at *
   have hof:0 ≤ f.f → (0 ≤ a.fi ∧ f.f = a.fi ∧ f.i = a.ba + n - a.fr):=fun h0=>by
    refine Classical.byContradiction fun hn=>h7 (.inl ⟨h0,?_⟩)
    rw [Bool.eq_false_iff]
    simp only [ne_eq,Bool.and_eq_true,decide_eq_true_eq]
    exact fun h=>hn ⟨h.1.1,h.1.2,h.2⟩
   refine ⟨fun h0 => ?_,fun hs => ?_,fun hw => ?_,fun hw h0 => ?_,fun hw h0 => ?_⟩
   ·obtain ⟨k1,k2,k3⟩:=hof h0
    refine ⟨k2,?_⟩
    unfold pgOf
    simp only
    rw [if_pos k1]; exact k3
   ·refine Classical.byContradiction fun hn=>h7 (.inr (.inl ⟨hs,?_⟩))
    rw [Bool.eq_false_iff]
    simp only [ne_eq,Bool.and_eq_true,decide_eq_true_eq]
    exact fun h=>by omega
   ·show a.wr = true
    cases hs:a.wr with
    | true=>rfl
    | false=>exact absurd (.inr (.inr (.inr ⟨hw,hs⟩))) h7
   ·show a.sh = true
    cases hs:a.sh with
    | true=>rfl
    | false=>
     refine absurd (.inr (.inr (.inl ⟨hs,?_,hw⟩))) h7
     have:=hof h0
     simp only [Bool.and_eq_true,decide_eq_true_eq]
     exact ⟨⟨this.1,this.2.1⟩,this.2.2⟩
   ·exact Classical.byContradiction fun hn=>h8 ⟨h0,hw,by omega⟩
 ·rintro ⟨g,hg,hf⟩
  have hne:onA (spN m p).ar n ≠ none:=by
   have:pgA m p n = onA (spN m p).ar n:=rfl
   rw [← this,hg]; exact fun h=>by cases h
  have h1:=hon.2 hne
  refine ⟨by omega,?_⟩
  obtain ⟨h3,h4⟩:=find_pg (l:=(spN m p).ar) (n:=n) h1
  have hg' : g = pgOf ((spN m p).ar.getD (findA (spN m p).ar n).toNat zAr) n:=by
   have:pgA m p n = onA (spN m p).ar n:=rfl
   rw [this,h3] at hg
   exact (Option.some.inj hg).symm
  subst hg'
  generalize (spN m p).ar.getD (findA (spN m p).ar n).toNat zAr = a at *
  have he:getT (spN m p).tb n = ent m p n:=rfl
  rw [he]
  generalize ent m p n = e at *
  simp only
  by_cases h5:e.k = 2
  ·obtain ⟨k1,k2⟩:=hf.sw h5
   have k2:a.sh = false:=k2
   rw [if_pos h5,ite_ne (by decide)]
   refine ⟨?_,rfl⟩
   rintro (h | h)
   ·omega
   ·rw [k2] at h; cases h
  ·have h1:e.k = 1:=by omega
   have k1:=hf.lt h1
   obtain ⟨f1,f2,f3,f4,f5⟩:=hf.fr h1
   have hfr:frAt m e.n = frN m e.n.toNat:=rfl
   rw [if_neg h5,ite_ne (by decide),ite_ne (by decide),ite_ne (by decide),hfr]
   generalize frN m e.n.toNat = f at *
   have f2:a.sh = true → 0 ≤ f.f:=f2
   have f3:e.w = true → a.wr = true:=f3
   have f4:e.w = true → 0 ≤ f.f → a.sh = true:=f4
   have hof:0 ≤ f.f → (decide (0 ≤ a.fi) && decide (f.f = a.fi) && decide (f.i = a.ba + n - a.fr)) = true:=fun h0=>by
    obtain ⟨k2,k3⟩:=f1 h0
    have k2:f.f = a.fi:=k2
    unfold pgOf at k3
    simp only at k3
    rw [if_pos (by omega)] at k3
    simp only [Bool.and_eq_true,decide_eq_true_eq]
    exact ⟨⟨by omega,k2⟩,k3⟩
   have hof' : (decide (0 ≤ a.fi) && decide (f.f = a.fi) && decide (f.i = a.ba + n - a.fr)) = true → 0 ≤ f.f:=fun h=>by
    simp only [Bool.and_eq_true,decide_eq_true_eq] at h
    omega
   generalize (decide (0 ≤ a.fi) && decide (f.f = a.fi) && decide (f.i = a.ba + n - a.fr)) = of at *
   refine ⟨by omega,?_,?_,rfl⟩
   ·rintro (⟨k2,k3⟩ | ⟨k2,k3⟩ | ⟨k2,k3,k4⟩ | ⟨k2,k3⟩)
    ·rw [hof k2] at k3; cases k3
    ·rw [hof (f2 k2)] at k3; cases k3
    ·rw [f4 k4 (hof' k3)] at k2; cases k2
    ·rw [f3 k2] at k3; cases k3
   ·rintro ⟨k2,k3,k4⟩
    have:=f5 k3 k2
    omega
theorem entries_zero {m:Ma} (hp:Pt m):entriesE m = 0 ↔ ∀ p n,(ent m p n).k ≠ 0 → ∃ g,pgA m p n = some g ∧ FitE m g (ent m p n):=by
 unfold entriesE
 rw [firstE_zero]
 constructor
 ·intro h p n hk
  have hp' : p < m.sp.length:=Classical.byContradiction fun hn=>hk (by unfold ent; rw [spN_out (by omega)]; have:getT zSp.tb n = zEn:=zTb_get n; rw [this]; rfl)
  have hn:0 ≤ n ∧ n < 64:=Classical.byContradiction fun hn=>hk (by rw [ent_out p (by omega)]; rfl)
  refine (entry_zero hp hk).1 (h _ (List.mem_flatMap.2 ⟨spN m p,spN_mem hp',List.mem_map_of_mem (mem_pages.2 ⟨hn,hk⟩)⟩))
 ·intro h x hx
  obtain ⟨s,hs,hx⟩:=List.mem_flatMap.1 hx
  obtain ⟨n,hn,rfl⟩:=List.mem_map.1 hx
  obtain ⟨p,hp',rfl⟩:=mem_spN hs
  have hk:=(mem_pages.1 hn).2
  exact (entry_zero hp hk).2 (h p n hk)
theorem cnt_pres (t:Tb) (i:Int):cnt (presT t (pagesL t)) i = (flatL t).countP (isE 1 i):=by
 rw [← find_len (show (1:Int) ≠ 0 by decide)]
 unfold cnt presT findL otherF
 rw [List.countP_map,List.countP_filter,← List.countP_eq_length_filter]
 congr 1
 funext n
 simp only [Function.comp_apply,Bool.not_or]
 rw [Bool.eq_iff_iff]
 simp only [Bool.and_eq_true,Bool.not_eq_true',decide_eq_false_iff_not,Classical.not_not,decide_eq_true_eq]
 exact and_comm
theorem cnt_swap {t:Tb} (h:wrongT t = 0) (i:Int):cnt (swapT t (pagesL t)) i = (flatL t).countP (isE 2 i):=by
 rw [← find_len (show (2:Int) ≠ 0 by decide)]
 unfold cnt swapT findL otherF
 rw [List.countP_map,List.countP_filter,← List.countP_eq_length_filter]
 refine List.countP_congr fun n hn => ?_
 have hE:=(entE_iff _).1 (getT_ent h n)
 have hk:=(mem_pages.1 hn).2
 simp only [Function.comp_apply,Bool.not_or,Bool.and_eq_true,Bool.not_eq_true',decide_eq_false_iff_not,Classical.not_not,decide_eq_true_eq]
 constructor
 ·rintro ⟨h1,h2⟩; exact ⟨by omega,h1⟩
 ·rintro ⟨h1,h2⟩; exact ⟨h2,by omega⟩
theorem cnt_app (l r:List Int) (i:Int):cnt (l ++ r) i = cnt l i + cnt r i:=by unfold cnt; rw [List.countP_append]
theorem cnt_flat {α:Type} (g:α → List Int) (i:Int):∀ l:List α,cnt (l.flatMap g) i = (l.map fun s=>cnt (g s) i).sum
 | []=>rfl
 | a :: l=>by rw [List.flatMap_cons,cnt_app,cnt_flat g i l,List.map_cons,List.sum_cons]
theorem cnt_held (m:Ma) (i:Int):cnt (heldL m) i = caN m i + holdN m 1 i:=by
 unfold heldL
 rw [cnt_app,cnt_flat]
 congr 1
 ·unfold cnt caN
  rw [List.countP_map]; rfl
 ·unfold holdN
  congr 1
  exact List.map_congr_left fun s _=>cnt_pres s.tb i
theorem cnt_swapL {m:Ma} (hp:Pt m) (i:Int):cnt (swapL m) i = holdN m 2 i:=by
 unfold swapL holdN
 rw [cnt_flat]
 congr 1
 exact List.map_congr_left fun s hs=>cnt_swap (hp.tb s hs) i
theorem countB_iff {m:Ma} (hp:Pt m):countB m = true ↔ (∀ i:Nat,i < m.m.fs.length → (frN m i).r = caN m i + holdN m 1 i) ∧ (∀ i:Nat,i < m.m.fs.length → 0 ≤ (frN m i).f → ∃ c ∈ m.ca,c.k = i) ∧ ∀ s:Nat,s < m.sl.length → slN m s = holdN m 2 s:=by
 unfold countB
 rw [Bool.and_eq_true,List.all_eq_true,decide_eq_true_eq]
 constructor
 ·rintro ⟨h1,h2⟩
  have h1:∀ i:Nat,i < m.m.fs.length → _:=fun i hi=>h1 i (List.mem_range.2 hi)
  simp only [Bool.and_eq_true,decide_eq_true_eq,Bool.or_eq_true,List.any_eq_true,cnt_held,frAt_nat] at h1
  refine ⟨fun i hi=>by rw [(h1 i hi).1]; omega,fun i hi h0 => ?_,fun s hs => ?_⟩
  ·rcases (h1 i hi).2 with h | ⟨c,hc,hk⟩
   ·have h:(frN m i).f < 0:=of_decide_eq_true h
    omega
   ·exact ⟨c,hc,hk⟩
  ·have:slN m s = (cntL m.sl.length (swapL m)).getD s 0:=by rw [← h2]; rfl
   rw [this]
   unfold cntL
   rw [List.getD_eq_getElem?_getD,List.getElem?_map,List.getElem?_range hs]
   show ((cnt (swapL m) s:Nat):Int) = _
   rw [cnt_swapL hp]
 ·rintro ⟨h1,h2,h3⟩
  refine ⟨fun i hi => ?_,?_⟩
  ·have hi:=List.mem_range.1 hi
   simp only [Bool.and_eq_true,decide_eq_true_eq,Bool.or_eq_true,List.any_eq_true,cnt_held,frAt_nat]
   refine ⟨by rw [h1 i hi]; omega,?_⟩
   by_cases h0:0 ≤ (frN m i).f
   ·obtain ⟨c,hc,hk⟩:=h2 i hi h0
    exact .inr ⟨c,hc,hk⟩
   ·exact .inl (decide_eq_true (show (frN m i).f < 0 by omega))
  ·apply List.ext_getElem
   ·unfold cntL; simp
   ·intro s k1 k2
    have:=h3 s k1
    have e2:(cntL m.sl.length (swapL m))[s]'k2 = ((cnt (swapL m) (s:Int):Nat):Int):=by simp [cntL]
    rw [e2,cnt_swapL hp,← this]
    unfold slN
    rw [List.getD_eq_getElem?_getD,List.getElem?_eq_getElem k1]; rfl
theorem rt_iff {m:Ma}:wrongMa m = 0 ↔ Rt m:=by
 unfold wrongMa
 rw [ite_self,ite_self,ite_self,partsE_zero,cachedE_zero]
 constructor
 ·rintro ⟨⟨hp,ht,hl⟩,hc,he,hb⟩
  have hb:countB m = true:=by
   cases h:countB m with
   | true=>rfl
   | false=>rw [h] at hb; exact absurd hb (by decide)
  obtain ⟨b1,b2,b3⟩:=(countB_iff hp).1 hb
  refine ⟨hp,trimB_iff.1 ht,fun p hp' => ?_,hc,(entries_zero hp).1 he,b1,b2,b3⟩
  rcases Nat.lt_or_ge p m.sp.length with h | h
  ·exact hl _ (spN_mem h) hp'
  ·rw [spN_out h]
   refine ⟨rfl,fun n => ?_⟩
   unfold ent
   rw [spN_out h]
   have:getT zSp.tb n = zEn:=zTb_get n
   rw [this]; rfl
 ·intro h
  refine ⟨⟨h.pt,trimB_iff.2 h.trim,fun s hs hlv => ?_⟩,h.ca,(entries_zero h.pt).2 h.en,?_⟩
  ·obtain ⟨p,hp,rfl⟩:=mem_spN hs
   exact h.live p hlv
  ·rw [if_pos ((countB_iff h.pt).2 ⟨h.cf,h.fc,h.cs⟩)]
def setE' (m:Ma) (p:Nat) (n:Int) (x:En):Ma:=setTb m p (setT (spN m p).tb n x)
theorem isE_none {kd i:Int} {e:En} (h:e.k = 0) (hk:kd ≠ 0):b2n (isE kd i e) = 0:=by
 unfold b2n isE
 rw [if_neg]
 simp only [Bool.and_eq_true,decide_eq_true_eq]
 intro h'; omega
theorem isE_is {kd i:Int} {e:En}:b2n (isE kd i e) = if e.k = kd ∧ e.n = i then 1 else 0:=by
 unfold b2n isE
 by_cases h:e.k = kd ∧ e.n = i
 ·rw [if_pos h,if_pos (by simp [h.1,h.2])]
 ·rw [if_neg h,if_neg]
  simp only [Bool.and_eq_true,decide_eq_true_eq]
  exact h
theorem held_of {m:Ma} (h:Rt m) {q:Nat} {j:Int} {f:Nat} (hk:(ent m q j).k = 1) (he:(ent m q j).n.toNat = f):0 < holdN m 1 f ∧ f < m.m.fs.length:=by
 have h3:=ent_in (m:=m) (p:=q) (n:=j) (by rw [hk]; decide)
 have h5:=(entE_iff _).1 (ent_ok h.pt q j)
 have h4:=(hold_pos (m:=m) (kd:=1) (i:=f) (by decide)).2 ⟨q,j,h3.1,h3.2,hk,by omega⟩
 obtain ⟨g,_,hg⟩:=h.en q j (by rw [hk]; decide)
 have:=hg.lt hk
 exact ⟨h4,by omega⟩
theorem more_frame {m:Ma} (h:Rt m) (hc:Co m) {p:Nat} {n:Int} {f:Nat} {X:Fr} {x:En} {g:Pg} (hp:p < m.sp.length) (hn:0 ≤ n ∧ n < 64) (h0:(ent m p n).k = 0) (hf:f < m.m.fs.length)
  (hxk:x.k = 1) (hxn:x.n = f) (hX:frameE X = 0) (hr:X.r = (frN m f).r + 1)
  (hold:(frN m f).r ≠ 0 → X.f = (frN m f).f ∧ X.i = (frN m f).i ∧ X.p = (frN m f).p ∧ X.d = (frN m f).d)
  (hnew:(frN m f).r = 0 → X.f < 0 ∧ X.d = false)
  (hw:X.f < 0 → ∀ q j,(ent m q j).k = 1 → (ent m q j).n.toNat = f → (ent m q j).w = false)
  (hg:pgA m p n = some g) (hfit:FitF X g x.w):Rt (setE' (setFr m f X) p n x) ∧ Co (setE' (setFr m f X) p n x):=by
 have hpt1:Pt (setFr m f X):=h.pt.setFr hX
 have hxE:entE x = 0:=(entE_iff x).2 (.inr (.inl ⟨hxk,by have:=((wrongM_iff _).1 h.pt.fr).1; omega⟩))
 obtain ⟨hs0,_,hpt⟩:=enter_ok (k:=⟨setFr m f X,0⟩) (p:=p) (n:=n) (x:=x) hpt1 hn hxE
 have hp1:p < (setFr m f X).sp.length:=hp
 have hent:∀ q j,ent (setE' (setFr m f X) p n x) q j = if q = p ∧ j = n then x else ent m q j:=fun q j=>ent_set hp1 hs0 q j
 have hfr:∀ y,frN (setE' (setFr m f X) p n x) y = if y = f then X else frN m y:=fun y=>frN_set hf y
 have hlen:(setE' (setFr m f X) p n x).m.fs.length = m.m.fs.length:=setFr_len
 have hcnt:∀ kd i,kd ≠ 0 → holdN (setE' (setFr m f X) p n x) kd i = holdN m kd i + b2n (isE kd i x):=fun kd i hk=>by
  have h1:=hold_set hp1 hs0 kd i
  have h2:b2n (isE kd i (ent (setFr m f X) p n)) = 0:=isE_none (e:=ent (setFr m f X) p n) h0 hk
  have h3:holdN (setFr m f X) kd i = holdN m kd i:=rfl
  unfold setE'
  omega
 have hsk0:Skel m (setFr m f X):=Skel.of rfl
 have hsk:Skel m (setE' (setFr m f X) p n x):=hsk0.trans (Skel.setTb (m:=setFr m f X) (p:=p) (t:=setT (spN (setFr m f X) p).tb n x))
 have hca:CaOk (setE' (setFr m f X) p n x):=by
  refine ⟨h.ca.file,fun c hcm => ?_,fun c hcm => ?_,h.ca.srt⟩
  ·rw [hlen]; exact h.ca.lt c hcm
  ·have h1:=h.ca.fr c hcm
   rw [hfr]
   by_cases e:c.k.toNat = f
   ·rw [if_pos e]
    rw [e] at h1
    obtain ⟨k1,k2,_⟩:=hold (by omega)
    exact ⟨by omega,by omega,by omega⟩
   ·rw [if_neg e]; exact h1
 refine ⟨⟨hpt,h.trim,fun q hq => ?_,hca,fun q j hk => ?_,fun i hi => ?_,fun i hi hi0 => ?_,fun s hs => ?_⟩,⟨fun c hcm => ?_,fun c hcm hd => ?_,fun i hi hd => ?_⟩⟩
 ·rw [hsk.lv] at hq
  obtain ⟨a1,a2⟩:=h.live q hq
  refine ⟨by rw [hsk.ar]; exact a1,fun j => ?_⟩
  rw [hent,if_neg]
  ·exact a2 j
  ·rintro ⟨rfl,rfl⟩
   have:pgA m q j = onA (spN m q).ar j:=rfl
   rw [this,a1] at hg
   cases hg
 ·have hpg:pgA (setE' (setFr m f X) p n x) q j = pgA m q j:=by unfold pgA; rw [hsk.ar]
  rw [hpg]
  rw [hent] at hk ⊢
  by_cases e:q = p ∧ j = n
  ·rw [if_pos e] at hk ⊢
   rw [e.1,e.2]
   refine ⟨g,hg,fun hk2=>by omega,fun _=>by rw [hlen]; omega,fun _ => ?_⟩
   rw [hfr,if_pos (by omega)]
   exact hfit
  ·rw [if_neg e] at hk ⊢
   obtain ⟨y,hy,hyf⟩:=h.en q j hk
   refine ⟨y,hy,hyf.sw,by rw [hlen]; exact hyf.lt,fun hk1 => ?_⟩
   rw [hfr]
   by_cases e2:(ent m q j).n.toNat = f
   ·rw [if_pos e2]
    have h1:=hyf.fr hk1
    rw [e2] at h1
    have h2:=held_of h hk1 e2
    have h3:=h.cf f hf
    obtain ⟨k1,k2,_,_⟩:=hold (by omega)
    obtain ⟨f1,f2,f3,f4,f5⟩:=h1
    refine ⟨by rw [k1,k2]; exact f1,by rw [k1]; exact f2,f3,by rw [k1]; exact f4,fun hw1 hx0 => ?_⟩
    rw [hw hx0 q j hk1 e2] at hw1; cases hw1
   ·rw [if_neg e2]; exact hyf.fr hk1
 ·have a1:caN (setE' (setFr m f X) p n x) i = caN m i:=rfl
  rw [hfr,a1,hcnt 1 i (by decide),isE_is]
  have h3:=h.cf i (by rw [← hlen]; exact hi)
  by_cases e:i = f
  ·subst e
   rw [if_pos rfl,if_pos ⟨hxk,hxn⟩,hr]; omega
  ·rw [if_neg e,if_neg (fun h'=>e (by omega))]; omega
 ·rw [hfr] at hi0
  by_cases e:i = f
  ·subst e
   rw [if_pos rfl] at hi0
   by_cases hr0:(frN m i).r = 0
   ·have:=(hnew hr0).1; omega
   ·obtain ⟨k1,_⟩:=hold hr0
    exact h.fc i hf (by omega)
  ·rw [if_neg e] at hi0
   exact h.fc i (by rw [← hlen]; exact hi) hi0
 ·rw [hcnt 2 s (by decide),isE_is,if_neg (fun h'=>by omega)]
  exact h.cs s hs
 ·have h1:=h.ca.fr c hcm
  rw [hfr]
  by_cases e:c.k.toNat = f
  ·rw [if_pos e]
   rw [e] at h1
   obtain ⟨_,_,k3,_⟩:=hold (by omega)
   rw [k3,← e]; exact hc.tail c hcm
  ·rw [if_neg e]; exact hc.tail c hcm
 ·have h1:=h.ca.fr c hcm
  rw [hfr] at hd ⊢
  by_cases e:c.k.toNat = f
  ·rw [if_pos e] at hd ⊢
   rw [e] at h1
   obtain ⟨_,_,k3,k4⟩:=hold (by omega)
   rw [k3,← e]
   exact hc.clean c hcm (by rw [e,← k4]; exact hd)
  ·rw [if_neg e] at hd ⊢; exact hc.clean c hcm hd
 ·rw [hfr] at hd ⊢
  by_cases e:i = f
  ·subst e
   rw [if_pos rfl] at hd ⊢
   by_cases hr0:(frN m i).r = 0
   ·rw [(hnew hr0).2] at hd; cases hd
   ·obtain ⟨k1,_,_,k4⟩:=hold hr0
    rw [k1]; exact hc.anon i hf (by rw [← k4]; exact hd)
  ·rw [if_neg e] at hd ⊢; exact hc.anon i (by rw [← hlen]; exact hi) hd
theorem more_slot {m:Ma} (h:Rt m) (hc:Co m) {p:Nat} {n:Int} {s:Nat} {d:Dsk} {x:En} {g:Pg} (hp:p < m.sp.length) (hn:0 ≤ n ∧ n < 64) (h0:(ent m p n).k = 0) (hs:s < m.sl.length)
  (hxk:x.k = 2) (hxn:x.n = s) (hxw:x.w = false) (h1k:slN m s + 1 ≤ 1000) (hd:wrongD d = 0) (hdl:d.blocks.length = m.sw.blocks.length) (hg:pgA m p n = some g) (hsh:g.sh = false) :
  Rt (setE' { setSl m s (slN m s + 1) with sw:=d } p n x) ∧ Co (setE' { setSl m s (slN m s + 1) with sw:=d } p n x):=by
 have hb:=h.pt.slB s
 have hpt0:Pt (setSl m s (slN m s + 1)):=h.pt.setSl (by omega) h1k
 have hpt1:Pt { setSl m s (slN m s + 1) with sw:=d }:={ hpt0 with sw:=hd,swl:=by show d.blocks.length = _; rw [hdl]; exact hpt0.swl }
 have hxE:entE x = 0:=(entE_iff x).2 (.inr (.inr ⟨hxk,by have:=wrongS_len h.pt.sl; omega,by have:=wrongS_len h.pt.sl; omega,hxw⟩))
 obtain ⟨hs0,_,hpt⟩:=enter_ok (k:=⟨{ setSl m s (slN m s + 1) with sw:=d },0⟩) (p:=p) (n:=n) (x:=x) hpt1 hn hxE
 have hp1:p < ({ setSl m s (slN m s + 1) with sw:=d }:Ma).sp.length:=hp
 generalize hm1:({ setSl m s (slN m s + 1) with sw:=d }:Ma) = m1 at *
 have hsp:m1.sp = m.sp:=by rw [← hm1]; rfl
 have hm:m1.m = m.m:=by rw [← hm1]; rfl
 have hcaE:m1.ca = m.ca:=by rw [← hm1]; rfl
 have hstE:m1.st = m.st:=by rw [← hm1]; rfl
 have hdkE:m1.dk = m.dk:=by rw [← hm1]; rfl
 have hslE:m1.sl = m.sl.set s (slN m s + 1):=by rw [← hm1]; rfl
 have hent1:∀ q j,ent m1 q j = ent m q j:=fun q j=>by unfold ent spN; rw [hsp]
 have hent:∀ q j,ent (setE' m1 p n x) q j = if q = p ∧ j = n then x else ent m q j:=fun q j=>by rw [← hent1]; exact ent_set hp1 hs0 q j
 have hfr:∀ y,frN (setE' m1 p n x) y = frN m y:=fun y=>by unfold frN setE' setTb; simp only; rw [hm]
 have hlen:(setE' m1 p n x).m.fs.length = m.m.fs.length:=by unfold setE' setTb; simp only; rw [hm]
 have hcnt:∀ kd i,kd ≠ 0 → holdN (setE' m1 p n x) kd i = holdN m kd i + b2n (isE kd i x):=fun kd i hk=>by
  have h1:=hold_set hp1 hs0 kd i
  have h2:b2n (isE kd i (ent m1 p n)) = 0:=isE_none (by rw [hent1]; exact h0) hk
  have h3:holdN m1 kd i = holdN m kd i:=by unfold holdN; rw [hsp]
  unfold setE'
  omega
 have hsk:Skel m (setE' m1 p n x):=(Skel.of hsp).trans Skel.setTb
 have hcaS:(setE' m1 p n x).ca = m.ca:=hcaE
 have hstS:(setE' m1 p n x).st = m.st:=hstE
 have hdkS:(setE' m1 p n x).dk = m.dk:=hdkE
 have hdisk:∀ a b,diskP (setE' m1 p n x) a b = diskP m a b:=fun a b=>by unfold diskP; rw [hstS,hdkS]
 refine ⟨⟨hpt,by rw [hdkS,hstS]; exact h.trim,fun q hq => ?_,⟨by rw [hcaS,hstS]; exact h.ca.file,by rw [hcaS,hlen]; exact h.ca.lt,fun c hcm=>by rw [hfr]; exact h.ca.fr c (by rw [← hcaS]; exact hcm),by rw [hcaS]; exact h.ca.srt⟩,fun q j hk => ?_,fun i hi => ?_,fun i hi hi0 => ?_,fun i hi => ?_⟩,⟨fun c hcm => ?_,fun c hcm hd => ?_,fun i hi hd => ?_⟩⟩
 ·rw [hsk.lv] at hq
  obtain ⟨a1,a2⟩:=h.live q hq
  refine ⟨by rw [hsk.ar]; exact a1,fun j => ?_⟩
  rw [hent,if_neg]
  ·exact a2 j
  ·rintro ⟨rfl,rfl⟩
   have:pgA m q j = onA (spN m q).ar j:=rfl
   rw [this,a1] at hg
   cases hg
 ·have hpg:pgA (setE' m1 p n x) q j = pgA m q j:=by unfold pgA; rw [hsk.ar]
  have hsll:(setE' m1 p n x).sl.length = m.sl.length:=by show m1.sl.length = _; rw [hslE,List.length_set]
  rw [hpg]
  rw [hent] at hk ⊢
  by_cases e:q = p ∧ j = n
  ·rw [if_pos e] at hk ⊢
   rw [e.1,e.2]
   exact ⟨g,hg,fun _=>⟨by rw [hsll]; omega,hsh⟩,fun hk1=>by omega,fun hk1=>by omega⟩
  ·rw [if_neg e] at hk ⊢
   obtain ⟨y,hy,hyf⟩:=h.en q j hk
   exact ⟨y,hy,by rw [hsll]; exact hyf.sw,by rw [hlen]; exact hyf.lt,fun hk1=>by rw [hfr]; exact hyf.fr hk1⟩
 ·have a1:caN (setE' m1 p n x) i = caN m i:=by unfold caN; rw [hcaS]
  rw [hfr,a1,hcnt 1 i (by decide),isE_is,if_neg (fun h'=>by omega)]
  exact h.cf i (by rw [← hlen]; exact hi)
 ·rw [hcaS]
  rw [hfr] at hi0
  exact h.fc i (by rw [← hlen]; exact hi) hi0
 ·have hi' : i < m.sl.length:=by
   have:(setE' m1 p n x).sl = m1.sl:=rfl
   rw [this,hslE,List.length_set] at hi; exact hi
  have hsl:slN (setE' m1 p n x) i = if i = s then slN m s + 1 else slN m i:=by
   have h1:=slN_set (x:=slN m s + 1) hs i
   have h2:slN (setE' m1 p n x) i = slN (setSl m s (slN m s + 1)) i:=by unfold slN; show m1.sl.getD i 0 = _; rw [hslE]; rfl
   rw [h2,h1]
  rw [hsl,hcnt 2 i (by decide),isE_is]
  have h3:=h.cs i hi'
  by_cases e:i = s
  ·subst e
   rw [if_pos rfl,if_pos ⟨hxk,hxn⟩]; omega
  ·rw [if_neg e,if_neg (fun h'=>e (by omega))]; omega
 ·rw [hfr,hstS]; rw [hcaS] at hcm; exact hc.tail c hcm
 ·rw [hcaS] at hcm; rw [hfr] at hd ⊢; rw [hdisk]; exact hc.clean c hcm hd
 ·rw [hfr] at hd ⊢; exact hc.anon i (by rw [← hlen]; exact hi) hd
theorem less_write {m:Ma} (h:Rt m) (hc:Co m) {p:Nat} {n:Int} (hk:(ent m p n).k = 1):Rt (setE' m p n ⟨1,(ent m p n).n,false⟩) ∧ Co (setE' m p n ⟨1,(ent m p n).n,false⟩):=by
 have hin:=ent_in (m:=m) (p:=p) (n:=n) (by rw [hk]; decide)
 have hE:=(entE_iff _).1 (ent_ok h.pt p n)
 have hxE:entE ⟨1,(ent m p n).n,false⟩ = 0:=(entE_iff _).2 (.inr (.inl ⟨rfl,by show 0 ≤ (ent m p n).n; omega,by show (ent m p n).n < 40; omega⟩))
 generalize hx:(⟨1,(ent m p n).n,false⟩:En) = x at *
 have hxk:x.k = 1:=by rw [← hx]
 have hxn:x.n = (ent m p n).n:=by rw [← hx]
 have hxw:x.w = false:=by rw [← hx]
 obtain ⟨hs0,_,hpt⟩:=enter_ok (k:=⟨m,0⟩) (p:=p) (n:=n) (x:=x) h.pt hin.2 hxE
 have hent:∀ q j,ent (setE' m p n x) q j = if q = p ∧ j = n then x else ent m q j:=fun q j=>ent_set hin.1 hs0 q j
 have hcnt:∀ kd i,holdN (setE' m p n x) kd i = holdN m kd i:=fun kd i=>by
  have h1:=hold_set hin.1 hs0 kd i
  have h2:b2n (isE kd i (ent m p n)) = b2n (isE kd i x):=by rw [isE_is,isE_is,hxk,hxn,hk]
  unfold setE'
  omega
 have hsk:Skel m (setE' m p n x):=Skel.setTb
 refine ⟨⟨hpt,h.trim,fun q hq => ?_,⟨h.ca.file,h.ca.lt,h.ca.fr,h.ca.srt⟩,fun q j hk' => ?_,fun i hi=>by rw [hcnt]; exact h.cf i hi,h.fc,fun s hs=>by rw [hcnt]; exact h.cs s hs⟩,⟨hc.tail,hc.clean,hc.anon⟩⟩
 ·rw [hsk.lv] at hq
  obtain ⟨a1,a2⟩:=h.live q hq
  refine ⟨by rw [hsk.ar]; exact a1,fun j => ?_⟩
  rw [hent,if_neg]
  ·exact a2 j
  ·rintro ⟨rfl,rfl⟩
   have:=a2 j; omega
 ·have hpg:pgA (setE' m p n x) q j = pgA m q j:=by unfold pgA; rw [hsk.ar]
  rw [hpg]
  rw [hent] at hk' ⊢
  by_cases e:q = p ∧ j = n
  ·rw [if_pos e] at hk' ⊢
   rw [e.1,e.2]
   obtain ⟨y,hy,hyf⟩:=h.en p n (by rw [hk]; decide)
   have h1:=hyf.lt hk
   obtain ⟨f1,f2,f3,f4,f5⟩:=hyf.fr hk
   refine ⟨y,hy,fun hk2=>by omega,fun _=>by rw [hxn]; exact h1,fun _ => ?_⟩
   rw [hxn,hxw]
   exact ⟨f1,f2,fun h=>(by cases h),fun h=>(by cases h),fun h=>(by cases h)⟩
  ·rw [if_neg e] at hk' ⊢
   obtain ⟨y,hy,hyf⟩:=h.en q j hk'
   exact ⟨y,hy,hyf.sw,hyf.lt,hyf.fr⟩
theorem more_space {m:Ma} (h:Rt m) (hc:Co m) {s:Sp} (hl:m.sp.length < 4) (hv:s.lv = true) (ha:(wrongA s.ar).1 = 0) (ht:s.tb = zTb):Rt { m with sp:=m.sp ++ [s] } ∧ Co { m with sp:=m.sp ++ [s] }:=by
 have hspN:∀ q,spN { m with sp:=m.sp ++ [s] } q = if q = m.sp.length then s else spN m q:=fun q=>by
  unfold spN
  show (m.sp ++ [s]).getD q zSp = _
  rw [List.getD_eq_getElem?_getD,List.getElem?_append]
  by_cases e:q < m.sp.length
  ·rw [if_pos e,if_neg (by omega),List.getD_eq_getElem?_getD]
  ·rw [if_neg e]
   by_cases e2:q = m.sp.length
   ·rw [if_pos e2,e2,Nat.sub_self]; rfl
   ·rw [if_neg e2,List.getD_eq_getElem?_getD,List.getElem?_eq_none (by simp; omega),List.getElem?_eq_none (by omega)]
 have hent:∀ q j,ent { m with sp:=m.sp ++ [s] } q j = ent m q j:=fun q j=>by
  unfold ent
  rw [hspN]
  by_cases e:q = m.sp.length
  ·rw [if_pos e,spN_out (by omega),ht]; rfl
  ·rw [if_neg e]
 have hcnt:∀ kd i,kd ≠ 0 → holdN { m with sp:=m.sp ++ [s] } kd i = holdN m kd i:=fun kd i hk=>by
  unfold holdN
  show ((m.sp ++ [s]).map _).sum = _
  rw [List.map_append,List.sum_append]
  have:([s].map fun s=>(flatL s.tb).countP (isE kd i)).sum = 0:=by
   rw [List.map_singleton,List.sum_singleton,ht,List.countP_eq_zero]
   intro e he
   unfold flatL at he
   obtain ⟨j,_,rfl⟩:=List.mem_map.1 he
   rw [zTb_get]
   unfold isE
   simp only [Bool.and_eq_true,decide_eq_true_eq]
   rintro ⟨h1,_⟩
   exact hk h1.symm
  omega
 refine ⟨⟨{ h.pt with spl:=by simp; omega,ar:=fun y hy => ?_,tb:=fun y hy => ?_ },h.trim,fun q hq => ?_,⟨h.ca.file,h.ca.lt,h.ca.fr,h.ca.srt⟩,fun q j hk => ?_,fun i hi=>by rw [hcnt 1 i (by decide)]; exact h.cf i hi,h.fc,fun i hi=>by rw [hcnt 2 i (by decide)]; exact h.cs i hi⟩,⟨hc.tail,hc.clean,hc.anon⟩⟩
 ·rcases List.mem_append.1 hy with hy | hy
  ·exact h.pt.ar y hy
  ·rw [List.mem_singleton.1 hy]; exact ha
 ·rcases List.mem_append.1 hy with hy | hy
  ·exact h.pt.tb y hy
  ·rw [List.mem_singleton.1 hy,ht]; decide
 ·rw [hspN] at hq ⊢
  by_cases e:q = m.sp.length
  ·rw [if_pos e,hv] at hq; cases hq
  ·rw [if_neg e] at hq ⊢
   refine ⟨(h.live q hq).1,fun j=>by rw [hent]; exact (h.live q hq).2 j⟩
 ·rw [hent] at hk ⊢
  obtain ⟨y,hy,hyf⟩:=h.en q j hk
  have hq:=ent_in hk
  refine ⟨y,?_,hyf.sw,hyf.lt,hyf.fr⟩
  unfold pgA at hy ⊢
  rw [hspN,if_neg (by omega)]
  exact hy
def lstT (T:List (List En)) (p:Nat):List En:=T.getD p []
def entT (T:List (List En)) (p n:Nat):En:=(lstT T p).getD n zEn
def fullM (m:Ma) (T:List (List En)):Ma:={ m with sp:=(List.range m.sp.length).map fun p => { spN m p with tb:=tabOf (lstT T p) } }
structure OkT (m:Ma) (T:List (List En)):Prop where
 len:T.length = m.sp.length
 ln:∀ t ∈ T,t.length = 64
 en:∀ t ∈ T,∀ x ∈ t,entE x = 0
theorem fullM_len {m:Ma} {T:List (List En)}:(fullM m T).sp.length = m.sp.length:=by unfold fullM; simp
theorem fullM_sp {m:Ma} {T:List (List En)} {p:Nat} (hp:p < m.sp.length):spN (fullM m T) p = { spN m p with tb:=tabOf (lstT T p) }:=by
 have:spN (fullM m T) p = ((List.range m.sp.length).map fun p=>({ spN m p with tb:=tabOf (lstT T p) }:Sp)).getD p zSp:=rfl
 rw [this,List.getD_eq_getElem?_getD,List.getElem?_map,List.getElem?_range hp]
 rfl
theorem OkT.mem {m:Ma} {T:List (List En)} (h:OkT m T) {p:Nat} (hp:p < m.sp.length):lstT T p ∈ T:=by
 unfold lstT
 rw [List.getD_eq_getElem?_getD,List.getElem?_eq_getElem (by rw [h.len]; exact hp)]
 exact List.getElem_mem _
theorem OkT.l64 {m:Ma} {T:List (List En)} (h:OkT m T) {p:Nat} (hp:p < m.sp.length):(lstT T p).length = 64:=h.ln _ (h.mem hp)
theorem OkT.right {m:Ma} {T:List (List En)} (h:OkT m T) {p:Nat} (hp:p < m.sp.length):wrongT (tabOf (lstT T p)) = 0:=tabOf_right (h.en _ (h.mem hp)) (h.l64 hp)
theorem fullM_ent {m:Ma} {T:List (List En)} (h:OkT m T) {p n:Nat} (hp:p < m.sp.length) (hn:n < 64):ent (fullM m T) p n = entT T p n:=by
 unfold ent entT
 rw [fullM_sp hp]
 show getT (tabOf (lstT T p)) n = _
 rw [getT_tabOf (h.en _ (h.mem hp)) (h.l64 hp) hn,List.getD_eq_getElem?_getD,List.getElem?_eq_getElem (by rw [h.l64 hp]; exact hn)]
 rfl
theorem entT_E {m:Ma} {T:List (List En)} (h:OkT m T) {p n:Nat} (hp:p < m.sp.length) (hn:n < 64):entE (entT T p n) = 0:=by
 unfold entT
 rw [List.getD_eq_getElem?_getD,List.getElem?_eq_getElem (by rw [h.l64 hp]; exact hn)]
 exact h.en _ (h.mem hp) _ (List.getElem_mem _)
def setL (T:List (List En)) (p n:Nat) (x:En):List (List En):=T.set p ((lstT T p).set n x)
theorem lstT_set {T:List (List En)} {p:Nat} (hp:p < T.length) {n:Nat} {x:En} (q:Nat):lstT (setL T p n x) q = if q = p then (lstT T p).set n x else lstT T q:=by
 unfold lstT setL
 rw [List.getD_eq_getElem?_getD,List.getElem?_set]
 by_cases e:q = p
 ·subst e; rw [if_pos rfl,if_pos hp,if_pos rfl]; rfl
 ·rw [if_neg (fun h=>e h.symm),if_neg e,List.getD_eq_getElem?_getD]
theorem OkT.set {m:Ma} {T:List (List En)} (h:OkT m T) {p n:Nat} {x:En} (hp:p < m.sp.length) (hx:entE x = 0):OkT m (setL T p n x):=by
 refine ⟨by unfold setL; rw [List.length_set]; exact h.len,fun t ht => ?_,fun t ht y hy => ?_⟩
 ·rcases List.mem_or_eq_of_mem_set ht with ht | rfl
  ·exact h.ln t ht
  ·rw [List.length_set]; exact h.l64 hp
 ·rcases List.mem_or_eq_of_mem_set ht with ht | rfl
  ·exact h.en t ht y hy
  ·rcases List.mem_or_eq_of_mem_set hy with hy | rfl
   ·exact h.en _ (h.mem hp) y hy
   ·exact hx
theorem entT_set {m:Ma} {T:List (List En)} (h:OkT m T) {p n:Nat} {x:En} (hp:p < m.sp.length) (hn:n < 64) (q j:Nat):entT (setL T p n x) q j = if q = p ∧ j = n then x else entT T q j:=by
 unfold entT
 rw [lstT_set (by rw [h.len]; exact hp)]
 by_cases e:q = p
 ·subst e
  rw [if_pos rfl,List.getD_eq_getElem?_getD,List.getElem?_set]
  by_cases e2:j = n
  ·subst e2
   rw [if_pos rfl,if_pos (by rw [h.l64 hp]; exact hn),if_pos ⟨rfl,rfl⟩]; rfl
  ·rw [if_neg (fun h=>e2 h.symm),if_neg (fun h=>e2 h.2),List.getD_eq_getElem?_getD]
 ·rw [if_neg e,if_neg (fun h=>e h.1)]
theorem fullM_set {m:Ma} {T:List (List En)} (h:OkT m T) {p n:Nat} {x:En} (hp:p < m.sp.length) (hn:n < 64) (hx:entE x = 0):setE' (fullM m T) p n x = fullM m (setL T p n x):=by
 have hl:=h.l64 hp
 have hw:=h.right hp
 have hse:setE (tabOf (lstT T p)) n x = 0:=setE_ok hw ⟨by omega,by omega⟩ hx
 have ht:setT (tabOf (lstT T p)) n x = tabOf ((lstT T p).set n x):=by
  rw [← tabOf_flat (setT_right hse),flat_set hse,flat_tabOf (h.en _ (h.mem hp)) hl,Int.toNat_natCast]
 unfold setE' setTb
 rw [fullM_sp hp]
 show { fullM m T with sp:=(fullM m T).sp.set p { spN m p with tb:=setT (tabOf (lstT T p)) n x } } = fullM m (setL T p n x)
 rw [ht]
 refine congrArg (fun s=>({ m with sp:=s }:Ma)) (?_:((List.range m.sp.length).map fun p=>({ spN m p with tb:=tabOf (lstT T p) }:Sp)).set p { spN m p with tb:=tabOf ((lstT T p).set n x) } = (List.range m.sp.length).map fun q=>({ spN m q with tb:=tabOf (lstT (setL T p n x) q) }:Sp))
 apply List.ext_getElem?
 intro q
 rw [List.getElem?_set,List.getElem?_map,List.getElem?_map]
 simp only [List.length_map,List.length_range]
 by_cases e:q = p
 ·subst e
  rw [if_pos rfl,if_pos hp,List.getElem?_range hp,Option.map_some,lstT_set (by rw [h.len]; exact hp),if_pos rfl]
 ·rw [if_neg (fun h=>e h.symm)]
  by_cases hq:q < m.sp.length
  ·rw [List.getElem?_range hq,Option.map_some,Option.map_some,lstT_set (by rw [h.len]; exact hp),if_neg e]
  ·rw [List.getElem?_eq_none (by simp; omega),Option.map_none,Option.map_none]
theorem fullM_fr {m:Ma} {T:List (List En)} {f:Nat} {X:Fr}:setFr (fullM m T) f X = fullM (setFr m f X) T:=rfl
theorem OkT.fr {m:Ma} {T:List (List En)} (h:OkT m T) {f:Nat} {X:Fr}:OkT (setFr m f X) T:=⟨h.len,h.ln,h.en⟩
theorem OkT.sps {m m' : Ma} {T:List (List En)} (h:OkT m T) (e:m'.sp.length = m.sp.length):OkT m' T:=⟨by rw [e]; exact h.len,h.ln,h.en⟩
theorem fullM_pg {m:Ma} {T:List (List En)} {p:Nat} (hp:p < m.sp.length) (n:Int):pgA (fullM m T) p n = onA (spN m p).ar n:=by
 unfold pgA; rw [fullM_sp hp]
theorem fullM_more {m:Ma} {T:List (List En)} (h:OkT m T) (s:Sp):fullM { m with sp:=m.sp ++ [s] } (T ++ [List.replicate 64 zEn]) = { fullM m T with sp:=(fullM m T).sp ++ [{ s with tb:=zTb }] }:=by
 have hz:tabOf (List.replicate 64 zEn) = zTb:=by decide +kernel
 unfold fullM
 simp only [Ma.mk.injEq,true_and,List.length_append,List.length_singleton]
 rw [List.range_succ,List.map_append]
 congr 1
 ·apply List.map_congr_left
  intro p hp
  have hp':=List.mem_range.1 hp
  unfold spN lstT
  simp only [List.getD_eq_getElem?_getD]
  rw [List.getElem?_append_left hp',List.getElem?_append_left (by rw [h.len]; exact hp')]
 ·unfold spN lstT
  simp only [List.map_cons,List.map_nil,List.getD_eq_getElem?_getD]
  rw [List.getElem?_append_right (Nat.le_refl _),Nat.sub_self,← h.len,List.getElem?_append_right (Nat.le_refl _),Nat.sub_self]
  simp only [List.getElem?_cons_zero,Option.getD_some]
  rw [hz]
theorem OkT.more {m:Ma} {T:List (List En)} (h:OkT m T) (s:Sp):OkT { m with sp:=m.sp ++ [s] } (T ++ [List.replicate 64 zEn]):=by
 refine ⟨by simp [h.len],fun t ht => ?_,fun t ht x hx => ?_⟩
 ·rcases List.mem_append.1 ht with ht | ht
  ·exact h.ln t ht
  ·rw [List.mem_singleton.1 ht,List.length_replicate]
 ·rcases List.mem_append.1 ht with ht | ht
  ·exact h.en t ht x hx
  ·rw [List.mem_singleton.1 ht] at hx
   rw [(List.mem_replicate.1 hx).2]; decide
def putC (m1:Ma) (g:Nat) (X:Fr) (f i:Int):Ma:={ setFr m1 g X with ca:=m1.ca.insertIdx (atC m1.ca f i) ⟨f,i,g⟩ }
theorem putC_ok {m1:Ma} {g:Nat} {f i:Int} {X:Fr} (h:Rt m1) (hc:Co m1) (hg:g < m1.m.fs.length) (hz:(frN m1 g).r = 0) (hin:inF m1.st f i) (hno:∀ c ∈ m1.ca,¬ (c.f = f ∧ c.i = i))
  (hX:X.r = 1 ∧ X.f = f ∧ X.i = i) (ht:cutPage X.p ((fileAt m1.st f).n - i * 8) = X.p) (hd:X.d = false → X.p = diskP m1 f i) :
  Rt (putC m1 g X f i) ∧ Co (putC m1 g X f i):=by
 have hlim:=inF_lt h.pt.st hin
 have hxE:frameE X = 0:=by
  rw [frameE_iff]
  have h1:=hin.1; have h2:=hin.2
  exact ⟨⟨by omega,by omega,by omega,by omega,by omega,by omega⟩,fun e=>by omega,fun e=>by omega⟩
 have hfr:∀ x,frN (putC m1 g X f i) x = if x = g then X else frN m1 x:=fun x=>frN_set hg x
 have hfrn:∀ x,x ≠ g → frN (putC m1 g X f i) x = frN m1 x:=fun x hx=>by rw [hfr,if_neg hx]
 have hlen:(putC m1 g X f i).m.fs.length = m1.m.fs.length:=setFr_len
 have hmem:∀ c,c ∈ (putC m1 g X f i).ca ↔ c = ⟨f,i,g⟩ ∨ c ∈ m1.ca:=fun c=>List.mem_insertIdx (at_le _ _ _)
 have hkg:∀ c ∈ m1.ca,c.k.toNat ≠ g:=fun c hcm e=>by
  have:=(h.ca.fr c hcm).1
  rw [e,hz] at this
  exact absurd this (by decide)
 have hdisk:∀ f' i',diskP (putC m1 g X f i) f' i' = diskP m1 f' i':=fun _ _=>rfl
 have hholdg:holdN m1 1 g = 0 ∧ caN m1 g = 0:=by
  have:=h.cf g hg
  omega
 have hpt:Pt (putC m1 g X f i):={ fr:=set_ok h.pt.fr hxE,sl:=h.pt.sl,sw:=h.pt.sw,dk:=h.pt.dk,st:=h.pt.st,swl:=h.pt.swl,dkl:=h.pt.dkl,spl:=h.pt.spl,ar:=h.pt.ar,tb:=h.pt.tb }
 have hcaok:CaOk (putC m1 g X f i):=by
  refine ⟨fun c hcm => ?_,fun c hcm => ?_,fun c hcm => ?_,insert_srt h.ca.srt hno⟩
  ·rcases (hmem c).1 hcm with rfl | hcm
   ·exact hin
   ·exact h.ca.file c hcm
  ·rw [hlen]
   rcases (hmem c).1 hcm with rfl | hcm
   ·show 0 ≤ (g:Int) ∧ (g:Int) < _; omega
   ·exact h.ca.lt c hcm
  ·rcases (hmem c).1 hcm with rfl | hcm
   ·rw [hfr,if_pos (Int.toNat_natCast g)]
    exact ⟨by omega,hX.2.1,hX.2.2⟩
   ·rw [hfrn _ (hkg c hcm)]; exact h.ca.fr c hcm
 have hent:∀ p n,ent (putC m1 g X f i) p n = ent m1 p n:=fun _ _=>rfl
 have hentg:∀ p n,(ent m1 p n).k = 1 → (ent m1 p n).n.toNat ≠ g:=by
  intro p n hk e
  have h3:=ent_in (m:=m1) (p:=p) (n:=n) (by rw [hk]; decide)
  have h5:=(entE_iff _).1 (ent_ok h.pt p n)
  have h4:=(hold_pos (m:=m1) (kd:=1) (i:=g) (by decide)).2 ⟨p,n,h3.1,h3.2,hk,by omega⟩
  omega
 refine ⟨⟨hpt,h.trim,h.live,hcaok,fun p n hk => ?_,fun x hx => ?_,fun x hx h0 => ?_,h.cs⟩,⟨fun c hcm => ?_,fun c hcm hd' => ?_,fun x hx hd' => ?_⟩⟩
 ·rw [hent] at hk ⊢
  obtain ⟨y,hy,hfit⟩:=h.en p n hk
  exact ⟨y,hy,hfit.sw,by rw [hlen]; exact hfit.lt,fun hk1=>by rw [hfrn _ (hentg p n hk1)]; exact hfit.fr hk1⟩
 ·have a1:caN (putC m1 g X f i) x = caN m1 x + b2n (decide ((g:Int) = x)):=countP_insert _ _ _ _ (at_le _ _ _)
  have a2:holdN (putC m1 g X f i) 1 x = holdN m1 1 x:=rfl
  rw [hfr,a1,a2]
  by_cases e:x = g
  ·subst e
   rw [if_pos rfl,hholdg.1,hholdg.2]
   have:b2n (decide ((x:Int) = (x:Int))) = 1:=by simp [b2n]
   rw [this,hX.1]; rfl
  ·rw [if_neg e]
   have:b2n (decide ((g:Int) = (x:Int))) = 0:=by unfold b2n; rw [if_neg]; simp only [decide_eq_true_eq]; omega
   rw [this]
   exact h.cf x (by rw [← hlen]; exact hx)
 ·by_cases e:x = g
  ·exact ⟨⟨f,i,g⟩,(hmem _).2 (.inl rfl),by rw [e]⟩
  ·rw [hfrn x e] at h0
   obtain ⟨c,hcm,hck⟩:=h.fc x (by rw [← hlen]; exact hx) h0
   exact ⟨c,(hmem c).2 (.inr hcm),hck⟩
 ·rcases (hmem c).1 hcm with rfl | hcm
  ·rw [hfr,if_pos (Int.toNat_natCast g)]
   exact ht
  ·rw [hfrn _ (hkg c hcm)]; exact hc.tail c hcm
 ·rcases (hmem c).1 hcm with rfl | hcm
  ·rw [hfr,if_pos (Int.toNat_natCast g)] at hd' ⊢; rw [hdisk]; exact hd hd'
  ·rw [hfrn _ (hkg c hcm)] at hd' ⊢
   rw [hdisk]; exact hc.clean c hcm hd'
 ·by_cases e:x = g
  ·rw [hfr,if_pos e]
   have:=hin.1.1
   omega
  ·rw [hfrn x e] at hd' ⊢; exact hc.anon x (by rw [← hlen]; exact hx) hd'
theorem hand_ok {m:Ma} (h:Rt m) (hc:Co m) {x:Int} (hx:wrongM ⟨m.m.fs,x⟩ = 0):Rt { m with m:=⟨m.m.fs,x⟩ } ∧ Co { m with m:=⟨m.m.fs,x⟩ }:=
 ⟨⟨{ h.pt with fr:=hx },h.trim,h.live,⟨h.ca.file,h.ca.lt,h.ca.fr,h.ca.srt⟩,fun p n hk=>have ⟨y,hy,hf⟩:=h.en p n hk; ⟨y,hy,hf.sw,hf.lt,hf.fr⟩,h.cf,h.fc,h.cs⟩,⟨hc.tail,hc.clean,hc.anon⟩⟩
theorem sum_le {α:Type} (g:α → Nat) (c:Nat) (h:∀ x,g x ≤ c):∀ l:List α,(l.map g).sum ≤ c * l.length
 | []=>by simp
 | x :: l=>by
  have h1:=sum_le g c h l
  have h2:=h x
  rw [List.map_cons,List.sum_cons,List.length_cons,Nat.mul_succ]
  omega
theorem flatL_len (t:Tb):(flatL t).length = 64:=by unfold flatL; simp
theorem holdN_le (m:Ma) (kd i:Int):holdN m kd i ≤ 64 * m.sp.length:=sum_le _ 64 (fun s=>by rw [← flatL_len s.tb]; exact List.countP_le_length) _
theorem caN_le {m:Ma} (h:CaOk m) (i:Int):caN m i ≤ 1:=srt_count h.srt fun a ha b hb e=>h.uniq ha hb e
theorem Rt.fewR {m:Ma} (h:Rt m) {f:Nat} (hf:f < m.m.fs.length):0 ≤ (frN m f).r ∧ (frN m f).r ≤ 257:=by
 have h1:=h.cf f hf
 have h2:=holdN_le m 1 f
 have h3:=caN_le h.ca f
 have h4:=h.pt.spl
 omega
theorem Rt.fewS {m:Ma} (h:Rt m) {s:Nat} (hs:s < m.sl.length):0 ≤ slN m s ∧ slN m s ≤ 256:=by
 have h1:=h.cs s hs
 have h2:=holdN_le m 2 s
 have h4:=h.pt.spl
 omega
theorem hold_two {m:Ma} (h:Pt m) {kd i:Int} (hk:kd ≠ 0) {p q:Nat} {n j:Int} (h1:(ent m p n).k = kd ∧ (ent m p n).n = i) (h2:(ent m q j).k = kd ∧ (ent m q j).n = i) (hne:¬ (q = p ∧ j = n)):2 ≤ holdN m kd i:=by
 have e1:=ent_in (m:=m) (p:=p) (n:=n) (by omega)
 have e2:=ent_in (m:=m) (p:=q) (n:=j) (by omega)
 obtain ⟨hs0,_,_⟩:=enter_ok (k:=⟨m,0⟩) (p:=p) (n:=n) (x:=zEn) h e1.2 (by decide)
 have a1:=hold_set e1.1 hs0 kd i
 have a2:b2n (isE kd i (ent m p n)) = 1:=by rw [isE_is,if_pos h1]
 have a3:b2n (isE kd i zEn) = 0:=isE_none rfl hk
 have a4:0 < holdN (setTb m p (setT (spN m p).tb n zEn)) kd i:=by
  refine (hold_pos hk).2 ⟨q,j,by rw [setTb_len]; exact e2.1,e2.2,?_⟩
  rw [ent_set e1.1 hs0,if_neg hne]
  exact h2
 have a5:holdN ({ m:=m,e:=0 }:Kp).m kd i = holdN m kd i:=rfl
 omega
def upFr (x:Fr):Fr:={ x with r:=x.r + 1 }
theorem upFr_ok {x:Fr} (h:frameE x = 0) (hr:x.r ≠ 0) (h1:x.r < 1000):frameE (upFr x) = 0:=by
 rw [frameE_iff] at h ⊢
 obtain ⟨⟨a,b,c⟩,d,e⟩:=h
 refine ⟨⟨?_,?_,c⟩,fun h0 => ?_,e⟩
 ·show 0 ≤ x.r + 1; omega
 ·show x.r + 1 ≤ 1000; omega
 ·have:x.r + 1 = 0:=h0
  omega
theorem ent_frame {m:Ma} (h:Rt m) {p:Nat} {n:Int} (hk:(ent m p n).k = 1):∃ f:Nat,(ent m p n).n = f ∧ f < m.m.fs.length ∧ (frN m f).r ≠ 0 ∧ p < m.sp.length ∧ (0 ≤ n ∧ n < 64) ∧ ∃ g,pgA m p n = some g ∧ FitF (frN m f) g (ent m p n).w:=by
 have h1:=ent_in (m:=m) (p:=p) (n:=n) (by rw [hk]; decide)
 have h2:=(entE_iff _).1 (ent_ok h.pt p n)
 obtain ⟨g,hg,hf⟩:=h.en p n (by rw [hk]; decide)
 have h3:=hf.lt hk
 have h4:=held_of h hk rfl
 refine ⟨(ent m p n).n.toNat,by omega,h4.2,?_,h1.1,h1.2,g,hg,hf.fr hk⟩
 have:=h.cf _ h4.2
 omega
theorem share_same {m:Ma} (h:Rt m) (hc:Co m) {p q:Nat} {n:Int} {f:Nat} {g:Pg} (hk:(ent m p n).k = 1) (hn:(ent m p n).n = f) (hq:q < m.sp.length) (h0:(ent m q n).k = 0) (hg:pgA m p n = some g) (hgq:pgA m q n = some g) (hw:(ent m p n).w = true → g.sh = true)
  (hany:(frN m f).f < 0 → ∀ a j,(ent m a j).k = 1 → (ent m a j).n.toNat = f → (ent m a j).w = false) :
  Rt (setE' (setFr m f (upFr (frN m f))) q n (ent m p n)) ∧ Co (setE' (setFr m f (upFr (frN m f))) q n (ent m p n)):=by
 obtain ⟨f',e1,e2,e3,e4,e5,g',e6,e7⟩:=ent_frame h hk
 have:f' = f:=by omega
 subst this
 rw [hg] at e6
 cases e6
 have hr:=h.fewR e2
 refine more_frame (g:=g) h hc hq e5 h0 e2 hk hn (upFr_ok (h.pt.frE e2) e3 (by omega)) rfl (fun _=>⟨rfl,rfl,rfl,rfl⟩) (fun h=>absurd h e3) hany hgq ?_
 obtain ⟨f1,f2,f3,f4,f5⟩:=e7
 refine ⟨f1,f2,f3,f4,fun hw' hx => ?_⟩
 have:=f2 (hw hw')
 have hx' : (frN m f').f < 0:=hx
 omega
theorem share_less {m:Ma} (h:Rt m) (hc:Co m) {p q:Nat} {n:Int} {f:Nat} {g:Pg} (hpq:p ≠ q) (hk:(ent m p n).k = 1) (hn:(ent m p n).n = f) (hq:q < m.sp.length) (h0:(ent m q n).k = 0) (hg:pgA m p n = some g) (hgq:pgA m q n = some g) :
  Rt (setE' (setE' (setFr m f (upFr (frN m f))) p n ⟨1,f,false⟩) q n ⟨1,f,false⟩) ∧ Co (setE' (setE' (setFr m f (upFr (frN m f))) p n ⟨1,f,false⟩) q n ⟨1,f,false⟩):=by
 obtain ⟨f',e1,e2,e3,e4,e5,g',e6,e7⟩:=ent_frame h hk
 have:f' = f:=by omega
 subst this
 obtain ⟨a1,a2⟩:=less_write h hc hk
 rw [hn] at a1 a2
 obtain ⟨hs0,_,_⟩:=enter_ok (k:=⟨m,0⟩) (p:=p) (n:=n) (x:=⟨1,f',false⟩) h.pt e5 ((entE_iff _).2 (.inr (.inl ⟨rfl,by show (0:Int) ≤ f'; omega,by have:=((wrongM_iff _).1 h.pt.fr).1; show (f' : Int) < 40; omega⟩)))
 have hent:∀ a j,ent (setE' m p n ⟨1,f',false⟩) a j = if a = p ∧ j = n then ⟨1,f',false⟩ else ent m a j:=fun a j=>ent_set e4 hs0 a j
 have hp:ent (setE' m p n ⟨1,f',false⟩) p n = ⟨1,f',false⟩:=by rw [hent,if_pos ⟨rfl,rfl⟩]
 have hsk:Skel m (setE' m p n ⟨1,f',false⟩):=Skel.setTb
 have hpg:∀ a,pgA (setE' m p n ⟨1,f',false⟩) a n = pgA m a n:=fun a=>by unfold pgA; rw [hsk.ar]
 have:=share_same (p:=p) (q:=q) (n:=n) (f:=f') (g:=g) a1 a2 (by rw [hp]) (by rw [hp]) (by rw [hsk.len]; exact hq) (by rw [hent,if_neg (fun h'=>hpq h'.1.symm)]; exact h0) (by rw [hpg]; exact hg) (by rw [hpg]; exact hgq) (fun h'=>by rw [hp] at h'; cases h') (fun hx a j hk1 hk2 => ?_)
 ·rw [hp] at this
  exact this
 ·rw [hent] at hk1 hk2 ⊢
  by_cases e:a = p ∧ j = n
  ·rw [if_pos e]
  ·rw [if_neg e] at hk1 hk2 ⊢
   obtain ⟨f2,b1,b2,b3,b4,b5,g2,b6,b7⟩:=ent_frame h hk1
   have hf2:f2 = f':=by omega
   subst hf2
   have h2:=hold_two h.pt (kd:=1) (i:=f2) (by decide) ⟨hk,hn⟩ ⟨hk1,b1⟩ e
   have h3:=h.cf f2 e2
   obtain ⟨c1,c2,c3,c4,c5⟩:=b7
   cases hw:(ent m a j).w with
   | false=>rfl
   | true=>
    have:=c5 hw hx
    omega
theorem share_slot {m:Ma} (h:Rt m) (hc:Co m) {p q:Nat} {n:Int} {s:Nat} {g:Pg} (hk:(ent m p n).k = 2) (hn:(ent m p n).n = s) (hq:q < m.sp.length) (h0:(ent m q n).k = 0) (hg:pgA m p n = some g) (hgq:pgA m q n = some g) :
  Rt (setE' (setSl m s (slN m s + 1)) q n (ent m p n)) ∧ Co (setE' (setSl m s (slN m s + 1)) q n (ent m p n)):=by
 have h1:=ent_in (m:=m) (p:=p) (n:=n) (by rw [hk]; decide)
 have h2:=(entE_iff _).1 (ent_ok h.pt p n)
 obtain ⟨g',hg',hf⟩:=h.en p n (by rw [hk]; decide)
 rw [hg] at hg'
 cases hg'
 have h3:=hf.sw hk
 have hs:s < m.sl.length:=by omega
 have h4:=h.fewS hs
 exact more_slot (d:=m.sw) (g:=g) h hc hq h1.2 h0 hs hk hn ((h2.resolve_left (fun h'=>by omega)).resolve_left (fun h'=>by omega)).2.2.2 (by omega) h.pt.sw rfl hgq h3.2
structure Bd (m:Ma) (T:List (List En)):Prop where
 ok:OkT m T
 rt:Rt (fullM m T)
 co:Co (fullM m T)
theorem Bd.of {m:Ma} {T:List (List En)} (ok:OkT m T) (h:Rt (fullM m T) ∧ Co (fullM m T)):Bd m T:=⟨ok,h.1,h.2⟩
theorem Bd.few {m:Ma} {T:List (List En)} (h:Bd m T):m.m.fs.length ≤ 40 ∧ m.sl.length ≤ 60 ∧ m.sp.length ≤ 4 ∧ (m.dk.blocks.length:Int) = m.st.count ∧ wrongSt m.st = 0 ∧ wrongD m.dk = 0 ∧ wrongD m.sw = 0 ∧ m.sw.blocks.length = m.sl.length:=
 ⟨((wrongM_iff _).1 h.rt.pt.fr).1,wrongS_len h.rt.pt.sl,by have:=h.rt.pt.spl; rw [fullM_len] at this; exact this,h.rt.pt.dkl,h.rt.pt.st,h.rt.pt.dk,h.rt.pt.sw,h.rt.pt.swl⟩
theorem Bd.cachedE {m:Ma} {T:List (List En)} (h:Bd m T) {p n:Nat} (hp:p < m.sp.length) (hn:n < 64) (h0:(entT T p n).k = 0) {c:Cc} (hcm:c ∈ m.ca) {g:Pg} (hg:onA (spN m p).ar n = some g) (hf:c.f = g.fi ∧ c.i = g.pg) {w:Bool} (hw:w = true → g.sh = true ∧ g.wr = true) :
  Bd (setFr m c.k.toNat (upFr (frN m c.k.toNat))) (setL T p n ⟨1,c.k,w⟩):=by
 have hlt:=h.rt.ca.lt c hcm
 have hfr:=h.rt.ca.fr c hcm
 have hfi:=h.rt.ca.file c hcm
 have hlt' : c.k.toNat < m.m.fs.length:=by have:c.k < (fullM m T).m.fs.length:=hlt.2; have e:(fullM m T).m.fs.length = m.m.fs.length:=rfl; omega
 have hxE:entE ⟨1,c.k,w⟩ = 0:=(entE_iff _).2 (.inr (.inl ⟨rfl,hlt.1,by have:=h.few.1; have:c.k < (fullM m T).m.fs.length:=hlt.2; have e:(fullM m T).m.fs.length = m.m.fs.length:=rfl; show c.k < 40; omega⟩))
 have hfew:=h.rt.fewR hlt'
 have hfrN:frN (fullM m T) c.k.toNat = frN m c.k.toNat:=rfl
 rw [hfrN] at hfr hfew
 refine .of (h.ok.fr.set hp hxE) ?_
 rw [← fullM_set h.ok.fr hp hn hxE,← fullM_fr]
 refine more_frame (g:=g) (f:=c.k.toNat) h.rt h.co (by rw [fullM_len]; exact hp) ⟨by omega,by omega⟩ (by rw [fullM_ent h.ok hp hn]; exact h0) hlt' rfl (by show c.k = _; omega) (upFr_ok (h.rt.pt.frE hlt') (by omega) (by omega)) rfl (fun _=>⟨rfl,rfl,rfl,rfl⟩) (fun h'=>by rw [hfrN] at h'; omega) (fun hx => ?_) (by rw [fullM_pg hp]; exact hg) ?_
 ·have:(frN m c.k.toNat).f < 0:=hx
  have:=hfi.1.1
  omega
 ·have e1:(upFr (frN m c.k.toNat)).f = (frN m c.k.toNat).f:=rfl
  have e2:(upFr (frN m c.k.toNat)).i = (frN m c.k.toNat).i:=rfl
  refine ⟨fun _=>⟨by omega,by omega⟩,fun _=>by have:=hfi.1.1; omega,fun h'=>(hw h').2,fun h' _=>(hw h').1,fun h' hx => ?_⟩
  have:=hfi.1.1
  omega
theorem Bd.anonE {m:Ma} {T:List (List En)} (h:Bd m T) {p n:Nat} (hp:p < m.sp.length) (hn:n < 64) (h0:(entT T p n).k = 0) {f:Nat} (hf:f < m.m.fs.length) (hr:(frN m f).r = 0) {X:Fr} (hX:X.r = 1 ∧ X.d = false ∧ X.f = -1 ∧ X.i = 0) {g:Pg} (hg:onA (spN m p).ar n = some g) (hsh:g.sh = false) {w:Bool} (hw:w = true → g.wr = true) :
  Bd (setFr m f X) (setL T p n ⟨1,f,w⟩):=by
 have hxE:entE ⟨1,f,w⟩ = 0:=(entE_iff _).2 (.inr (.inl ⟨rfl,by show (0:Int) ≤ f; omega,by have:=h.few.1; show (f:Int) < 40; omega⟩))
 have hfrN:frN (fullM m T) f = frN m f:=rfl
 refine .of (h.ok.fr.set hp hxE) ?_
 rw [← fullM_set h.ok.fr hp hn hxE,← fullM_fr]
 have hXE:frameE X = 0:=by
  rw [frameE_iff]
  exact ⟨⟨by omega,by omega,by omega,by omega,by omega,by omega⟩,fun h'=>by omega,fun _=>hX.2.2.2⟩
 refine more_frame (g:=g) (f:=f) h.rt h.co (by rw [fullM_len]; exact hp) ⟨by omega,by omega⟩ (by rw [fullM_ent h.ok hp hn]; exact h0) hf rfl rfl hXE (by rw [hfrN]; omega) (fun h'=>by rw [hfrN] at h'; omega) (fun _=>⟨by omega,hX.2.1⟩) (fun hx a j hk1 hk2 => ?_) (by rw [fullM_pg hp]; exact hg) ?_
 ·have:=held_of h.rt hk1 hk2
  have h5:=h.rt.cf f hf
  rw [hfrN] at h5
  omega
 ·exact ⟨fun h'=>absurd h' (by omega),fun h'=>(by rw [hsh] at h'; cases h'),hw,fun _ h'=>absurd h' (by omega),fun _ _=>by omega⟩
theorem Bd.slotE {m:Ma} {T:List (List En)} (h:Bd m T) {p n:Nat} (hp:p < m.sp.length) (hn:n < 64) (h0:(entT T p n).k = 0) {s:Nat} (hs:s < m.sl.length) (hz:slN m s = 0) {P:Page} {g:Pg} (hg:onA (spN m p).ar n = some g) (hsh:g.sh = false) :
  Bd { m with sl:=m.sl.set s 1,sw:=⟨m.sw.blocks.set s P,m.sw.queue⟩ } (setL T p n ⟨2,s,false⟩):=by
 have hxE:entE ⟨2,s,false⟩ = 0:=(entE_iff _).2 (.inr (.inr ⟨rfl,by show (0:Int) ≤ s; omega,by have:=h.few.2.1; show (s:Int) < 60; omega,rfl⟩))
 have hok:OkT { m with sl:=m.sl.set s 1,sw:=⟨m.sw.blocks.set s P,m.sw.queue⟩ } T:=h.ok.sps rfl
 refine .of (hok.set hp hxE) ?_
 rw [← fullM_set hok hp hn hxE]
 have hwd:wrongD ⟨m.sw.blocks.set s P,m.sw.queue⟩ = 0:=by
  have:=(wrongD_iff _).1 h.rt.pt.sw
  rw [wrongD_iff]
  simp only [List.length_set]
  exact this
 have hsl:slN (fullM m T) s = 0:=hz
 have:=more_slot (d:=⟨m.sw.blocks.set s P,m.sw.queue⟩) (x:=⟨2,s,false⟩) (n:=(n:Int)) (g:=g) h.rt h.co (p:=p) (s:=s) (by rw [fullM_len]; exact hp) ⟨by omega,by omega⟩ (by rw [fullM_ent h.ok hp hn]; exact h0) hs rfl rfl rfl (by rw [hsl]; omega) hwd (by rw [List.length_set]; rfl) (by rw [fullM_pg hp]; exact hg) hsh
 rw [hsl] at this
 exact this
theorem Bd.cache {m:Ma} {T:List (List En)} (h:Bd m T) {f i:Int} (hin:inF m.st f i) (hno:∀ c ∈ m.ca,¬ (c.f = f ∧ c.i = i)) {g:Nat} (hg:g < m.m.fs.length) (hr:(frN m g).r = 0) {X:Fr} (hX:X.r = 1 ∧ X.f = f ∧ X.i = i) (ht:cutPage X.p ((fileAt m.st f).n - i * 8) = X.p) (hd:X.d = false → X.p = diskP m f i) :
  Bd (putC m g X f i) T:=.of (h.ok.sps rfl) (putC_ok h.rt h.co hg hr hin hno hX ht hd)
theorem Bd.more {m:Ma} {T:List (List En)} (h:Bd m T) {s:Sp} (hl:m.sp.length < 4) (hv:s.lv = true) (ha:(wrongA s.ar).1 = 0):Bd { m with sp:=m.sp ++ [s] } (T ++ [List.replicate 64 zEn]):=by
 refine .of (h.ok.more s) ?_
 rw [fullM_more h.ok]
 exact more_space h.rt h.co (s:={ s with tb:=zTb }) (by rw [fullM_len]; exact hl) hv ha rfl
theorem Bd.share1 {m:Ma} {T:List (List En)} (h:Bd m T) (hl:m.sp.length = 2) {n:Nat} (hn:n < 64) (har:(spN m 1).ar = (spN m 0).ar) (hk:(entT T 0 n).k = 1) (h0:(entT T 1 n).k = 0) {g:Pg} (hg:onA (spN m 0).ar n = some g) {f:Nat} (hf:(entT T 0 n).n = f) {w:Bool} (hw:w = (g.sh && (entT T 0 n).w)) :
  Bd (setFr m f (upFr (frN m f))) (setL (setL T 0 n ⟨1,f,w⟩) 1 n ⟨1,f,w⟩):=by
 have e0:=fullM_ent h.ok (p:=0) (by omega) hn
 have e1:=fullM_ent h.ok (p:=1) (by omega) hn
 have hg0:pgA (fullM m T) 0 n = some g:=by rw [fullM_pg (by omega)]; exact hg
 have hg1:pgA (fullM m T) 1 n = some g:=by rw [fullM_pg (by omega),har]; exact hg
 obtain ⟨f',a1,a2,_⟩:=ent_frame h.rt (p:=0) (n:=n) (by rw [e0]; exact hk)
 have a2' : f' < m.m.fs.length:=a2
 have hff:f' = f:=by rw [e0] at a1; omega
 subst hff
 have hxE:∀ w,entE ⟨1,f',w⟩ = 0:=fun w=>(entE_iff _).2 (.inr (.inl ⟨rfl,by show (0:Int) ≤ f'; omega,by have:=h.few.1; show (f' : Int) < 40; omega⟩))
 have hok:=(h.ok.fr (f:=f') (X:=upFr (frN m f'))).set (p:=0) (n:=n) (by show 0 < m.sp.length; omega) (hxE w)
 refine .of (hok.set (by show 1 < m.sp.length; omega) (hxE w)) ?_
 have hex:(⟨1,f',(entT T 0 n).w⟩:En) = entT T 0 n:=by rw [← hf,← hk]
 rw [← fullM_set hok (by show 1 < m.sp.length; omega) hn (hxE w)]
 cases hs:g.sh with
 | false=>
  rw [hs,Bool.false_and] at hw
  subst hw
  rw [← fullM_set h.ok.fr (by show 0 < m.sp.length; omega) hn (hxE false),← fullM_fr]
  exact share_less (m:=fullM m T) (p:=0) (q:=1) (n:=n) (f:=f') (g:=g) h.rt h.co (by decide) (by rw [e0]; exact hk) (by rw [e0]; exact hf) (by rw [fullM_len]; omega) (by rw [e1]; exact h0) hg0 hg1
 | true=>
  rw [hs,Bool.true_and] at hw
  subst hw
  rw [hex]
  have hself:setL T 0 n (entT T 0 n) = T:=by
   have hl0:lstT T 0 ∈ T:=h.ok.mem (by omega)
   have h64:=h.ok.l64 (p:=0) (by omega)
   unfold setL entT
   rw [List.getD_eq_getElem?_getD,List.getElem?_eq_getElem (by omega:n < (lstT T 0).length),Option.getD_some,List.set_getElem_self]
   unfold lstT
   rw [List.getD_eq_getElem?_getD,List.getElem?_eq_getElem (by rw [h.ok.len]; omega:0 < T.length),Option.getD_some,List.set_getElem_self]
  rw [hself,← fullM_fr,← e0]
  refine share_same (m:=fullM m T) (p:=0) (q:=1) (n:=n) (f:=f') (g:=g) h.rt h.co (by rw [e0]; exact hk) (by rw [e0]; exact hf) (by rw [fullM_len]; omega) (by rw [e1]; exact h0) hg0 hg1 (fun _=>hs) (fun hx => ?_)
  obtain ⟨f2,b1,b2,b3,b4,b5,g2,b6,b7⟩:=ent_frame h.rt (p:=0) (n:=n) (by rw [e0]; exact hk)
  have:f2 = f':=by omega
  subst this
  rw [hg0] at b6
  cases b6
  have:=b7.2.1 hs
  omega
theorem Bd.share2 {m:Ma} {T:List (List En)} (h:Bd m T) (hl:m.sp.length = 2) {n:Nat} (hn:n < 64) (har:(spN m 1).ar = (spN m 0).ar) (hk:(entT T 0 n).k = 2) (h0:(entT T 1 n).k = 0) {g:Pg} (hg:onA (spN m 0).ar n = some g) {s:Nat} (hf:(entT T 0 n).n = s) :
  Bd (setSl m s (slN m s + 1)) (setL (setL T 0 n (entT T 0 n)) 1 n (entT T 0 n)):=by
 have e0:=fullM_ent h.ok (p:=0) (by omega) hn
 have e1:=fullM_ent h.ok (p:=1) (by omega) hn
 have hg0:pgA (fullM m T) 0 n = some g:=by rw [fullM_pg (by omega)]; exact hg
 have hg1:pgA (fullM m T) 1 n = some g:=by rw [fullM_pg (by omega),har]; exact hg
 have hself:setL T 0 n (entT T 0 n) = T:=by
  have hl0:lstT T 0 ∈ T:=h.ok.mem (by omega)
  have h64:=h.ok.l64 (p:=0) (by omega)
  unfold setL entT
  rw [List.getD_eq_getElem?_getD,List.getElem?_eq_getElem (by omega:n < (lstT T 0).length),Option.getD_some,List.set_getElem_self]
  unfold lstT
  rw [List.getD_eq_getElem?_getD,List.getElem?_eq_getElem (by rw [h.ok.len]; omega:0 < T.length),Option.getD_some,List.set_getElem_self]
 rw [hself]
 have hE:=entT_E h.ok (p:=0) (by omega) hn
 have hok:OkT (setSl m s (slN m s + 1)) T:=h.ok.sps rfl
 refine .of (hok.set (by show 1 < m.sp.length; omega) hE) ?_
 rw [← fullM_set hok (by show 1 < m.sp.length; omega) hn hE,← e0]
 exact share_slot (m:=fullM m T) (p:=0) (q:=1) (n:=n) (s:=s) (g:=g) h.rt h.co (by rw [e0]; exact hk) (by rw [e0]; exact hf) (by rw [fullM_len]; omega) (by rw [e1]; exact h0) hg0 hg1
theorem Bd.share0 {m:Ma} {T:List (List En)} (h:Bd m T) (hl:m.sp.length = 2) {n:Nat} (hn:n < 64) (hk:(entT T 0 n).k = 0) (h0:(entT T 1 n).k = 0):Bd m (setL (setL T 0 n (entT T 0 n)) 1 n (entT T 0 n)):=by
 have hE0:=(entE_iff _).1 (entT_E h.ok (p:=0) (by omega) hn)
 have hE1:=(entE_iff _).1 (entT_E h.ok (p:=1) (by omega) hn)
 have hz:∀ e:En,e.k = 0 → ((e.k = 0 ∧ e.n = 0 ∧ e.w = false) ∨ (e.k = 1 ∧ 0 ≤ e.n ∧ e.n < 40) ∨ (e.k = 2 ∧ 0 ≤ e.n ∧ e.n < 60 ∧ e.w = false)) → e = zEn:=by
  rintro ⟨a,b,c⟩ h1 h2
  rcases h2 with ⟨a1,a2,a3⟩ | h2 | h2
  ·simp only at a1 a2 a3; subst a1; subst a2; subst a3; rfl
  ·omega
  ·omega
 have h0':=hz _ hk hE0
 have h1':=hz _ h0 hE1
 have hself:∀ p,p < 2 → entT T p n = zEn → setL T p n zEn = T:=fun p hp he=>by
  have h64:=h.ok.l64 (p:=p) (by omega)
  have hlT:=h.ok.len
  have:(lstT T p)[n]'(by omega) = zEn:=by
   unfold entT at he
   rw [List.getD_eq_getElem?_getD,List.getElem?_eq_getElem (by omega:n < (lstT T p).length),Option.getD_some] at he
   exact he
  unfold setL
  rw [← this,List.set_getElem_self]
  unfold lstT
  rw [List.getD_eq_getElem?_getD,List.getElem?_eq_getElem (by omega:p < T.length),Option.getD_some,List.set_getElem_self]
 rw [h0',hself 0 (by omega) h0',hself 1 (by omega) h1']
 exact h
structure VisX (X:Nat → Int → Prop) (m m' : Ma):Prop where
 sk:Skel m m'
 files:m'.st.fs.length = m.st.fs.length
 size:∀ f,(fileAt m'.st f).n = (fileAt m.st f).n
 lenb:∀ f,(fileAt m'.st f).b.length = (fileAt m.st f).b.length
 see:∀ p n,¬ X p n → seeN m' p n = seeN m p n
 con:∀ f i,inF m.st f i → contentP m' f i = contentP m f i
theorem VisX.trans {X:Nat → Int → Prop} {a b c:Ma} (h:VisX X a b) (k:VisX X b c):VisX X a c:=
 ⟨h.sk.trans k.sk,k.files.trans h.files,fun f=>(k.size f).trans (h.size f),fun f=>(k.lenb f).trans (h.lenb f),fun p n hx=>(k.see p n hx).trans (h.see p n hx),fun f i hi=>(k.con f i (hi.same h.files h.lenb)).trans (h.con f i hi)⟩
theorem VisX.refl (X:Nat → Int → Prop) (m:Ma):VisX X m m:=⟨.refl m,rfl,fun _=>rfl,fun _=>rfl,fun _ _ _=>rfl,fun _ _ _=>rfl⟩
theorem VisX.mono {X Y:Nat → Int → Prop} {m m' : Ma} (h:VisX X m m') (hx:∀ p n,X p n → Y p n):VisX Y m m':=⟨h.sk,h.files,h.size,h.lenb,fun p n hn=>h.see p n fun h'=>hn (hx p n h'),h.con⟩
theorem visx_of {X:Nat → Int → Prop} {m m' : Ma} (sk:Skel m m') (hf:Files m.st m'.st) (hc:∀ f i,inF m.st f i → contentP m' f i = contentP m f i)
  (hs:∀ p n g,¬ X p n → pgA m p n = some g → seeE m' g (ent m' p n) = seeE m g (ent m p n)):VisX X m m':=by
 refine ⟨sk,hf.len,hf.size,hf.lenb,fun p n hx => ?_,hc⟩
 have hp:pgA m' p n = pgA m p n:=by unfold pgA; rw [sk.ar]
 cases hg:pgA m p n with
 | none=>rw [seeN_none hg,seeN_none (hp.trans hg)]
 | some g=>rw [seeN_some hg,seeN_some (hp.trans hg)]; exact hs p n g hx hg
def atP (p:Nat) (n:Int) (q:Nat) (j:Int):Prop:=q = p ∧ j = n
structure Less (m m' : Ma) (p:Nat) (n:Int):Prop where
 rt:Rt m'
 co:Co m'
 vis:VisX (atP p n) m m'
 st:m'.st = m.st
 dk:m'.dk = m.dk
 sw:m'.sw = m.sw
 ca:m'.ca = m.ca
 len:m'.m.fs.length = m.m.fs.length
 sll:m'.sl.length = m.sl.length
 ents:∀ q j,ent m' q j = if q = p ∧ j = n then zEn else ent m q j
 fr:∀ g,(frN m' g).r ≠ 0 → (frN m' g).p = (frN m g).p ∧ (frN m' g).u = (frN m g).u ∧ (frN m' g).d = (frN m g).d ∧ (frN m' g).f = (frN m g).f ∧ (frN m' g).i = (frN m g).i
theorem heldF_r (x:Fr) (n:Int):(heldF x n).r = x.r + n:=by
 unfold heldF
 by_cases h:x.r + n = 0
 ·rw [if_pos h,h]; rfl
 ·rw [if_neg h]
theorem heldF_like {x:Fr} {n:Int} (h:x.r + n ≠ 0):heldF x n = { x with r:=x.r + n }:=by unfold heldF; rw [if_neg h]
theorem less_frame {m:Ma} (h:Rt m) (hc:Co m) {p:Nat} {n:Int} {f:Nat} (hk:(ent m p n).k = 1) (hn:(ent m p n).n = f):Less m (setE' (setFr m f (heldF (frN m f) (-1))) p n zEn) p n:=by
 obtain ⟨f',e1,hf,hr,hp,hnn,g0,hg0,hfit0⟩:=ent_frame h hk
 have:f' = f:=by omega
 subst this
 have hfew:=h.fewR hf
 have hXE:frameE (heldF (frN m f') (-1)) = 0:=heldF_ok (h.pt.frE hf) hr (by omega) (by omega)
 have hXr:=heldF_r (frN m f') (-1)
 have hlike:(frN m f').r ≠ 1 → heldF (frN m f') (-1) = { frN m f' with r:=(frN m f').r + -1 }:=fun h1=>heldF_like (by omega)
 generalize hX:heldF (frN m f') (-1) = X at *
 have hpt1:Pt (setFr m f' X):=h.pt.setFr hXE
 obtain ⟨hs0,_,hpt⟩:=enter_ok (k:=⟨setFr m f' X,0⟩) (p:=p) (n:=n) (x:=zEn) hpt1 hnn (by decide)
 have hp1:p < (setFr m f' X).sp.length:=hp
 have hent:∀ q j,ent (setE' (setFr m f' X) p n zEn) q j = if q = p ∧ j = n then zEn else ent m q j:=fun q j=>ent_set hp1 hs0 q j
 have hfr:∀ y,frN (setE' (setFr m f' X) p n zEn) y = if y = f' then X else frN m y:=fun y=>frN_set hf y
 have hlen:(setE' (setFr m f' X) p n zEn).m.fs.length = m.m.fs.length:=setFr_len
 have hcnt:∀ kd i,kd ≠ 0 → holdN (setE' (setFr m f' X) p n zEn) kd i + b2n (isE kd i (ent m p n)) = holdN m kd i:=fun kd i hkd=>by
  have h1:=hold_set hp1 hs0 kd i
  have h2:b2n (isE kd i zEn) = 0:=isE_none rfl hkd
  have h3:holdN (setFr m f' X) kd i = holdN m kd i:=rfl
  have h4:ent (setFr m f' X) p n = ent m p n:=rfl
  rw [h4] at h1
  unfold setE'
  omega
 have hsk0:Skel m (setFr m f' X):=Skel.of rfl
 have hsk:Skel m (setE' (setFr m f' X) p n zEn):=hsk0.trans (Skel.setTb (m:=setFr m f' X) (p:=p) (t:=setT (spN (setFr m f' X) p).tb n zEn))
 have hone:∀ c ∈ m.ca,c.k.toNat = f' → (frN m f').r ≠ 1:=fun c hcm e hr1=>by
  have h1:=h.cf f' hf
  have h2:=h.ca.one hcm
  have h3:=h.ca.lt c hcm
  have h4:=held_of (f:=f') h hk (by omega)
  have:c.k = (f' : Int):=by omega
  rw [this] at h2
  omega
 have hcaF:∀ c ∈ m.ca,(frN (setE' (setFr m f' X) p n zEn) c.k.toNat).p = (frN m c.k.toNat).p ∧ (frN (setE' (setFr m f' X) p n zEn) c.k.toNat).d = (frN m c.k.toNat).d ∧ (frN (setE' (setFr m f' X) p n zEn) c.k.toNat).f = (frN m c.k.toNat).f ∧ (frN (setE' (setFr m f' X) p n zEn) c.k.toNat).i = (frN m c.k.toNat).i ∧ 1 ≤ (frN (setE' (setFr m f' X) p n zEn) c.k.toNat).r:=fun c hcm=>by
  have h1:=h.ca.fr c hcm
  rw [hfr]
  by_cases e:c.k.toNat = f'
  ·rw [if_pos e]
   have h2:=hone c hcm e
   rw [e] at h1 ⊢
   rw [hlike h2]
   exact ⟨rfl,rfl,rfl,rfl,by show 1 ≤ (frN m f').r + -1; omega⟩
  ·rw [if_neg e]; exact ⟨rfl,rfl,rfl,rfl,h1.1⟩
 have hoth:∀ q j,¬ (q = p ∧ j = n) → (ent m q j).k = 1 → (ent m q j).n.toNat = f' → (frN m f').r ≠ 1:=fun q j hne hk1 hk2 hr1=>by
  obtain ⟨f2,b1,b2,b3,b4,b5,g2,b6,b7⟩:=ent_frame h hk1
  have hf2:f2 = f':=by omega
  subst hf2
  have h2:=hold_two h.pt (kd:=1) (i:=f2) (by decide) ⟨hk,hn⟩ ⟨hk1,b1⟩ hne
  have h3:=h.cf f2 hf
  omega
 have hcaok:CaOk (setE' (setFr m f' X) p n zEn):=by
  refine ⟨h.ca.file,fun c hcm => ?_,fun c hcm => ?_,h.ca.srt⟩
  ·rw [hlen]; exact h.ca.lt c hcm
  ·have h1:=h.ca.fr c hcm
   obtain ⟨a1,a2,a3,a4,a5⟩:=hcaF c hcm
   exact ⟨a5,a3.trans h1.2.1,a4.trans h1.2.2⟩
 have hdisk:∀ a b,diskP (setE' (setFr m f' X) p n zEn) a b = diskP m a b:=fun _ _=>rfl
 have hcon:∀ a b,contentP (setE' (setFr m f' X) p n zEn) a b = contentP m a b:=by
  intro a b
  rcases look_cases m a b with ⟨c,hl,hcm,hcf,hci⟩ | ⟨hl,hno⟩
  ·subst hcf; subst hci
   rw [content_in h.ca hcm,content_in (m:=setE' (setFr m f' X) p n zEn) hcaok hcm,(hcaF c hcm).1]
  ·rw [content_out hno,content_out (m:=setE' (setFr m f' X) p n zEn) hno,hdisk]
 refine ⟨⟨hpt,h.trim,fun q hq => ?_,hcaok,fun q j hk' => ?_,fun i hi => ?_,fun i hi hi0 => ?_,fun s hs => ?_⟩,⟨fun c hcm => ?_,fun c hcm hd => ?_,fun i hi hd => ?_⟩,?_,rfl,rfl,rfl,rfl,hlen,rfl,hent,fun y hy => ?_⟩
 ·rw [hsk.lv] at hq
  obtain ⟨a1,a2⟩:=h.live q hq
  refine ⟨by rw [hsk.ar]; exact a1,fun j => ?_⟩
  rw [hent]
  split
  ·rfl
  ·exact a2 j
 ·have hpg:pgA (setE' (setFr m f' X) p n zEn) q j = pgA m q j:=by unfold pgA; rw [hsk.ar]
  rw [hpg]
  rw [hent] at hk' ⊢
  by_cases e:q = p ∧ j = n
  ·rw [if_pos e] at hk'; exact absurd rfl hk'
  ·rw [if_neg e] at hk' ⊢
   obtain ⟨y,hy,hyf⟩:=h.en q j hk'
   refine ⟨y,hy,hyf.sw,by rw [hlen]; exact hyf.lt,fun hk1 => ?_⟩
   rw [hfr]
   by_cases e2:(ent m q j).n.toNat = f'
   ·rw [if_pos e2]
    have h1:=hyf.fr hk1
    rw [e2] at h1
    rw [hlike (hoth q j e hk1 e2)]
    obtain ⟨f1,f2,f3,f4,f5⟩:=h1
    refine ⟨f1,f2,f3,f4,fun hw1 hx0 => ?_⟩
    have:=f5 hw1 hx0
    show (frN m f').r + -1 ≤ 1
    omega
   ·rw [if_neg e2]; exact hyf.fr hk1
 ·have a1:caN (setE' (setFr m f' X) p n zEn) i = caN m i:=rfl
  have h1:=hcnt 1 i (by decide)
  rw [isE_is] at h1
  rw [hfr,a1]
  have h3:=h.cf i (by rw [← hlen]; exact hi)
  by_cases e:i = f'
  ·subst e
   rw [if_pos ⟨hk,hn⟩] at h1
   rw [if_pos rfl,hXr]; omega
  ·rw [if_neg (fun h'=>e (by omega))] at h1
   rw [if_neg e]; omega
 ·rw [hfr] at hi0
  by_cases e:i = f'
  ·subst e
   rw [if_pos rfl] at hi0
   by_cases hr1:(frN m i).r = 1
   ·have hx0:X.r = 0:=by omega
    have:=((frameE_iff _).1 hXE).2.1 hx0
    omega
   ·rw [hlike hr1] at hi0
    exact h.fc i hf hi0
  ·rw [if_neg e] at hi0
   exact h.fc i (by rw [← hlen]; exact hi) hi0
 ·have h1:=hcnt 2 s (by decide)
  rw [isE_is,if_neg (fun h'=>by omega)] at h1
  have:=h.cs s hs
  show slN m s = _
  omega
 ·obtain ⟨a1,a2,a3,a4,a5⟩:=hcaF c hcm
  rw [a1]; exact hc.tail c hcm
 ·obtain ⟨a1,a2,a3,a4,a5⟩:=hcaF c hcm
  rw [a2] at hd
  rw [a1,hdisk]; exact hc.clean c hcm hd
 ·rw [hfr] at hd ⊢
  by_cases e:i = f'
  ·subst e
   rw [if_pos rfl] at hd ⊢
   by_cases hr1:(frN m i).r = 1
   ·have hx0:X.r = 0:=by omega
    have:=(((frameE_iff _).1 hXE).2.1 hx0).2.1
    rw [this] at hd; cases hd
   ·rw [hlike hr1] at hd ⊢
    exact hc.anon i hf hd
  ·rw [if_neg e] at hd ⊢; exact hc.anon i (by rw [← hlen]; exact hi) hd
 ·refine visx_of hsk (Files.refl _) (fun a b _=>hcon a b) fun q j y hx hy => ?_
  rw [hent,if_neg (show ¬ (q = p ∧ j = n) from hx)]
  refine see_same h.pt.st (h.pt.pg hy).1 (Files.refl _) (fun a b _=>hcon a b) (fun hk1 => ?_) (fun _=>⟨rfl,rfl⟩)
  show (frN (setE' (setFr m f' X) p n zEn) (ent m q j).n.toNat).p = (frN m (ent m q j).n.toNat).p ∧ (frN (setE' (setFr m f' X) p n zEn) (ent m q j).n.toNat).f = (frN m (ent m q j).n.toNat).f
  rw [hfr]
  by_cases e2:(ent m q j).n.toNat = f'
  ·rw [if_pos e2,e2,hlike (hoth q j hx hk1 e2)]
   exact ⟨rfl,rfl⟩
  ·rw [if_neg e2]; exact ⟨rfl,rfl⟩
 ·rw [hfr] at hy ⊢
  by_cases e:y = f'
  ·rw [if_pos e] at hy ⊢
   rw [e,hlike (by omega)]
   exact ⟨rfl,rfl,rfl,rfl,rfl⟩
  ·rw [if_neg e]; exact ⟨rfl,rfl,rfl,rfl,rfl⟩
theorem less_slot {m:Ma} (h:Rt m) (hc:Co m) {p:Nat} {n:Int} {s:Nat} (hk:(ent m p n).k = 2) (hn:(ent m p n).n = s):Less m (setE' (setSl m s (slN m s + -1)) p n zEn) p n:=by
 have hin:=ent_in (m:=m) (p:=p) (n:=n) (by rw [hk]; decide)
 obtain ⟨g0,hg0,hfit0⟩:=h.en p n (by rw [hk]; decide)
 have hs:s < m.sl.length:=by have:=hfit0.sw hk; omega
 have hfew:=h.fewS hs
 have hpos:0 < holdN m 2 s:=(hold_pos (by decide)).2 ⟨p,n,hin.1,hin.2,hk,hn⟩
 have hcs:=h.cs s hs
 have hpt1:Pt (setSl m s (slN m s + -1)):=h.pt.setSl (by omega) (by omega)
 obtain ⟨hs0,_,hpt⟩:=enter_ok (k:=⟨setSl m s (slN m s + -1),0⟩) (p:=p) (n:=n) (x:=zEn) hpt1 hin.2 (by decide)
 have hp1:p < (setSl m s (slN m s + -1)).sp.length:=hin.1
 have hent:∀ q j,ent (setE' (setSl m s (slN m s + -1)) p n zEn) q j = if q = p ∧ j = n then zEn else ent m q j:=fun q j=>ent_set hp1 hs0 q j
 have hcnt:∀ kd i,kd ≠ 0 → holdN (setE' (setSl m s (slN m s + -1)) p n zEn) kd i + b2n (isE kd i (ent m p n)) = holdN m kd i:=fun kd i hkd=>by
  have h1:=hold_set hp1 hs0 kd i
  have h2:b2n (isE kd i zEn) = 0:=isE_none rfl hkd
  have h3:holdN (setSl m s (slN m s + -1)) kd i = holdN m kd i:=rfl
  have h4:ent (setSl m s (slN m s + -1)) p n = ent m p n:=rfl
  rw [h4] at h1
  unfold setE'
  omega
 have hsk0:Skel m (setSl m s (slN m s + -1)):=Skel.of rfl
 have hsk:Skel m (setE' (setSl m s (slN m s + -1)) p n zEn):=hsk0.trans (Skel.setTb (m:=setSl m s (slN m s + -1)) (p:=p) (t:=setT (spN (setSl m s (slN m s + -1)) p).tb n zEn))
 have hsll:(setE' (setSl m s (slN m s + -1)) p n zEn).sl.length = m.sl.length:=List.length_set
 refine ⟨⟨hpt,h.trim,fun q hq => ?_,⟨h.ca.file,h.ca.lt,h.ca.fr,h.ca.srt⟩,fun q j hk' => ?_,fun i hi => ?_,h.fc,fun i hi => ?_⟩,⟨hc.tail,hc.clean,hc.anon⟩,?_,rfl,rfl,rfl,rfl,rfl,hsll,hent,fun y hy=>⟨rfl,rfl,rfl,rfl,rfl⟩⟩
 ·rw [hsk.lv] at hq
  obtain ⟨a1,a2⟩:=h.live q hq
  refine ⟨by rw [hsk.ar]; exact a1,fun j => ?_⟩
  rw [hent]
  split
  ·rfl
  ·exact a2 j
 ·have hpg:pgA (setE' (setSl m s (slN m s + -1)) p n zEn) q j = pgA m q j:=by unfold pgA; rw [hsk.ar]
  rw [hpg]
  rw [hent] at hk' ⊢
  by_cases e:q = p ∧ j = n
  ·rw [if_pos e] at hk'; exact absurd rfl hk'
  ·rw [if_neg e] at hk' ⊢
   obtain ⟨y,hy,hyf⟩:=h.en q j hk'
   exact ⟨y,hy,by rw [hsll]; exact hyf.sw,hyf.lt,hyf.fr⟩
 ·have h1:=hcnt 1 i (by decide)
  rw [isE_is,if_neg (fun h'=>by omega)] at h1
  have h2:=h.cf i hi
  have a1:caN (setE' (setSl m s (slN m s + -1)) p n zEn) i = caN m i:=rfl
  have a2:frN (setE' (setSl m s (slN m s + -1)) p n zEn) i = frN m i:=rfl
  rw [a1,a2]; omega
 ·rw [hsll] at hi
  have h1:=hcnt 2 i (by decide)
  rw [isE_is] at h1
  have h2:=h.cs i hi
  have a2:slN (setE' (setSl m s (slN m s + -1)) p n zEn) i = slN (setSl m s (slN m s + -1)) i:=rfl
  rw [a2,slN_set hs]
  by_cases e:i = s
  ·subst e
   rw [if_pos ⟨hk,hn⟩] at h1
   rw [if_pos rfl]; omega
  ·rw [if_neg (fun h'=>e (by omega))] at h1
   rw [if_neg e]; omega
 ·refine visx_of hsk (Files.refl _) (fun a b _=>rfl) fun q j y hx hy => ?_
  rw [hent,if_neg (show ¬ (q = p ∧ j = n) from hx)]
  exact see_same h.pt.st (h.pt.pg hy).1 (Files.refl _) (fun a b _=>rfl) (fun _=>⟨rfl,rfl⟩) (fun _=>⟨rfl,rfl⟩)
theorem drop_ok {k:Kp} (h:Rt k.m) (hc:Co k.m) (p:Nat) (n:Int):((ent k.m p n).k = 0 ∧ dropK k p n = k) ∨ ∃ m',dropK k p n = ⟨m',k.e⟩ ∧ Less k.m m' p n:=by
 have h2:=(entE_iff _).1 (ent_ok h.pt p n)
 have hg:getT (spN k.m p).tb n = ent k.m p n:=rfl
 rcases h2 with h2 | h2 | h2
 ·refine .inl ⟨h2.1,?_⟩
  unfold dropK
  rw [hg,if_neg (by omega),if_neg (by omega)]
 ·right
  obtain ⟨f,e1,hf,hr,hp,hnn,g0,hg0,hfit0⟩:=ent_frame h h2.1
  have hfew:=h.fewR hf
  obtain ⟨a1,a2⟩:=fhold_ok (k:=k) (f:=f) (n:=-1) h.pt hf hr (by omega) (by omega)
  obtain ⟨s0,b1,b2⟩:=enter_ok (k:=⟨setFr k.m f (heldF (frN k.m f) (-1)),k.e⟩) (p:=p) (n:=n) (x:=zEn) a2 hnn (by decide)
  refine ⟨_,?_,less_frame h hc h2.1 e1⟩
  unfold dropK
  simp only
  rw [hg,if_pos h2.1,e1,a1,b1]
  rfl
 ·right
  have hin:=ent_in (m:=k.m) (p:=p) (n:=n) (by omega)
  obtain ⟨g0,hg0,hfit0⟩:=h.en p n (by omega)
  have hs:(ent k.m p n).n.toNat < k.m.sl.length:=by have:=hfit0.sw h2.1; omega
  have hfew:=h.fewS hs
  have hpos:0 < holdN k.m 2 ((ent k.m p n).n.toNat:Nat):=(hold_pos (by decide)).2 ⟨p,n,hin.1,hin.2,h2.1,by omega⟩
  have hcs:=h.cs _ hs
  obtain ⟨a1,a2⟩:=shold_ok' (k:=k) (s:=(ent k.m p n).n.toNat) (n:=-1) h.pt hs (by omega) (by omega) (by omega)
  obtain ⟨s0,b1,b2⟩:=enter_ok (k:=⟨setSl k.m (ent k.m p n).n.toNat (slN k.m (ent k.m p n).n.toNat + -1),k.e⟩) (p:=p) (n:=n) (x:=zEn) a2 hin.2 (by decide)
  refine ⟨_,?_,less_slot h hc h2.1 (s:=(ent k.m p n).n.toNat) (by omega)⟩
  unfold dropK
  simp only
  rw [hg,if_neg (by omega),if_pos h2.1]
  rw [show (ent k.m p n).n = (((ent k.m p n).n.toNat:Nat):Int) by omega,a1,b1]
  rfl
def setSp (m:Ma) (q:Nat) (s:Sp):Ma:={ m with sp:=m.sp.set q s }
theorem spN_setSp {m:Ma} {q:Nat} {s:Sp} (hq:q < m.sp.length) (p:Nat):spN (setSp m q s) p = if p = q then s else spN m p:=by
 unfold spN setSp
 simp only
 rw [List.getD_eq_getElem?_getD,List.getElem?_set]
 by_cases e:p = q
 ·subst e; rw [if_pos rfl,if_pos hq,if_pos rfl]; rfl
 ·rw [if_neg (fun h=>e h.symm),if_neg e,List.getD_eq_getElem?_getD]
theorem flat_none {t:Tb} {kd i:Int} (hk:kd ≠ 0) (h:∀ n,(getT t n).k = 0):(flatL t).countP (isE kd i) = 0:=by
 rw [List.countP_eq_zero]
 intro e he
 unfold flatL at he
 obtain ⟨j,_,rfl⟩:=List.mem_map.1 he
 unfold isE
 simp only [Bool.and_eq_true,decide_eq_true_eq]
 rintro ⟨h1,_⟩
 have:=h j
 omega
theorem set_space {m:Ma} (h:Rt m) (hc:Co m) {q:Nat} {s:Sp} (hq:q < m.sp.length) (h0:∀ n,(ent m q n).k = 0) (ha:(wrongA s.ar).1 = 0) (hv:s.lv = false → s.ar = []) (ht:s.tb = zTb):Rt (setSp m q s) ∧ Co (setSp m q s):=by
 have hent:∀ p j,(ent (setSp m q s) p j).k ≠ 0 → p ≠ q:=fun p j hk e=>by
  unfold ent at hk
  rw [spN_setSp hq,if_pos e,ht,zTb_get] at hk
  exact hk rfl
 have hent2:∀ p j,p ≠ q → ent (setSp m q s) p j = ent m p j:=fun p j e=>by unfold ent; rw [spN_setSp hq,if_neg e]
 have hcnt:∀ kd i,kd ≠ 0 → holdN (setSp m q s) kd i = holdN m kd i:=fun kd i hk=>by
  unfold holdN setSp
  simp only
  have e1:=sum_set (m.sp.map fun s=>(flatL s.tb).countP (isE kd i)) q (by simpa using hq) ((flatL s.tb).countP (isE kd i))
  have e2:(flatL s.tb).countP (isE kd i) = 0:=flat_none hk fun n=>by rw [ht,zTb_get]; rfl
  have e3:(flatL (spN m q).tb).countP (isE kd i) = 0:=flat_none hk fun n=>h0 n
  rw [List.getElem_map] at e1
  have e4:m.sp[q] = spN m q:=by have:=spN_at hq; rw [List.getElem?_eq_getElem hq] at this; exact Option.some.inj this
  rw [e4,e3,e2] at e1
  rw [List.map_set,e2]
  omega
 refine ⟨⟨{ h.pt with spl:=by show (m.sp.set q s).length ≤ 4; rw [List.length_set]; exact h.pt.spl,ar:=fun y hy => ?_,tb:=fun y hy => ?_ },h.trim,fun p hp => ?_,⟨h.ca.file,h.ca.lt,h.ca.fr,h.ca.srt⟩,fun p j hk => ?_,fun i hi=>by rw [hcnt 1 i (by decide)]; exact h.cf i hi,h.fc,fun i hi=>by rw [hcnt 2 i (by decide)]; exact h.cs i hi⟩,⟨hc.tail,hc.clean,hc.anon⟩⟩
 ·rcases List.mem_or_eq_of_mem_set hy with hy | rfl
  ·exact h.pt.ar y hy
  ·exact ha
 ·rcases List.mem_or_eq_of_mem_set hy with hy | rfl
  ·exact h.pt.tb y hy
  ·rw [ht]; decide
 ·by_cases e:p = q
  ·rw [spN_setSp hq,if_pos e] at hp ⊢
   refine ⟨hv hp,fun n => ?_⟩
   unfold ent
   rw [spN_setSp hq,if_pos e,ht,zTb_get]; rfl
  ·rw [spN_setSp hq,if_neg e] at hp ⊢
   exact ⟨(h.live p hp).1,fun n=>by rw [hent2 p n e]; exact (h.live p hp).2 n⟩
 ·have e:=hent p j hk
  rw [hent2 p j e] at hk ⊢
  obtain ⟨y,hy,hyf⟩:=h.en p j hk
  refine ⟨y,?_,hyf.sw,hyf.lt,hyf.fr⟩
  unfold pgA at hy ⊢
  rw [spN_setSp hq,if_neg e]; exact hy
def shA (l:List Ar) (n:Int):Bool:=(l.getD (findA l n).toNat zAr).sh
def shareK (k:Kp) (p q:Nat) (n:Int):Kp:=
 let e:=ent k.m p n
 if e.k = 2 then
  if sholdE k.m.sl e.n 1 ≠ 0 then ⟨k.m,sholdE k.m.sl e.n 1⟩ else enterK ⟨{ k.m with sl:=holdL k.m.sl e.n 1 },k.e⟩ q n e
 else
  let k1:=fholdK k e.n 1
  if shA (spN k.m p).ar n = true then enterK k1 q n e else enterK (enterK k1 p n ⟨e.k,e.n,false⟩) q n ⟨e.k,e.n,false⟩
def newSp (m:Ma) (p q:Nat):Ma:=if q = m.sp.length then { m with sp:=m.sp ++ [⟨true,(spN m p).ar,zTb⟩] } else setSp m q ⟨true,(spN m p).ar,zTb⟩
def sharesK (k:Kp) (p q:Nat) (l:List Int):Kp:=l.foldl (fun k n=>shareK k p q n) k
def forkK (m:Ma) (p q:Nat):Kp:=sharesK ⟨newSp m p q,0⟩ p q (pagesL (spN m p).tb)
def deadI (m:Ma):Int:=idx (fun s:Sp => !s.lv) m.sp
def inN (a n i:Int):Bool:=decide (a ≤ i) && decide (i - a < n)
def clearsK (k:Kp) (p:Nat) (a n:Int) (l:List Int):Kp:=l.foldl (fun k i=>if inN a n i = true then dropK k p i else k) k
def clearK (k:Kp) (p:Nat) (a n:Int):Kp:=clearsK k p a n (pagesL (spN k.m p).tb)
def exitK (m:Ma) (p:Nat):Kp:=let k:=clearK ⟨m,0⟩ p 0 64; ⟨setSp k.m p zSp,k.e⟩
theorem shA_pg {m:Ma} {p:Nat} {n:Int} {g:Pg} (hg:pgA m p n = some g):shA (spN m p).ar n = g.sh ∧ 0 ≤ findA (spN m p).ar n:=by
 have h1:0 ≤ findA (spN m p).ar n:=(find_on _ _).2 (by unfold pgA at hg; rw [hg]; simp)
 have h2:=(find_pg h1).1
 unfold pgA at hg
 rw [hg] at h2
 have h3:=Option.some.inj h2
 refine ⟨?_,h1⟩
 unfold shA
 rw [h3]; rfl
def LikeR (x y:Fr):Prop:=y.p = x.p ∧ y.u = x.u ∧ y.d = x.d ∧ y.f = x.f ∧ y.i = x.i ∧ (y.r = 0 ↔ x.r = 0)
theorem LikeR.refl (x:Fr):LikeR x x:=⟨rfl,rfl,rfl,rfl,rfl,Iff.rfl⟩
theorem LikeR.trans {x y z:Fr} (h:LikeR x y) (k:LikeR y z):LikeR x z:=⟨k.1.trans h.1,k.2.1.trans h.2.1,k.2.2.1.trans h.2.2.1,k.2.2.2.1.trans h.2.2.2.1,k.2.2.2.2.1.trans h.2.2.2.2.1,k.2.2.2.2.2.trans h.2.2.2.2.2⟩
theorem LikeR.up {x:Fr} (h:x.r ≠ 0) (h0:0 ≤ x.r):LikeR x (upFr x):=⟨rfl,rfl,rfl,rfl,rfl,⟨fun (e:x.r + 1 = 0)=>by omega,fun e=>absurd e h⟩⟩
def alike (a b:En):Prop:=b.k = a.k ∧ b.n = a.n
structure Shared (m m' : Ma) (p q:Nat) (D:List Int):Prop where
 rt:Rt m'
 co:Co m'
 sk:Skel m m'
 st:m'.st = m.st
 dk:m'.dk = m.dk
 sw:m'.sw = m.sw
 ca:m'.ca = m.ca
 len:m'.m.fs.length = m.m.fs.length
 sll:m'.sl.length = m.sl.length
 fr:∀ g,LikeR (frN m g) (frN m' g)
 sl:∀ s,slN m' s = 0 ↔ slN m s = 0
 oth:∀ a j,a ≠ q → alike (ent m a j) (ent m' a j)
 chd:∀ j,j ∈ D → alike (ent m p j) (ent m' q j)
 chn:∀ j,¬ j ∈ D → ent m' q j = ent m q j
theorem share_step {k:Kp} (h:Rt k.m) (hc:Co k.m) {p q:Nat} (hpq:p ≠ q) (hq:q < k.m.sp.length) (har:(spN k.m q).ar = (spN k.m p).ar) {n:Int} (hk:(ent k.m p n).k ≠ 0) (h0:(ent k.m q n).k = 0) :
  ∃ m',shareK k p q n = ⟨m',k.e⟩ ∧ Shared k.m m' p q [n]:=by
 obtain ⟨g,hg,hfit⟩:=h.en p n hk
 have hgq:pgA k.m q n = some g:=by unfold pgA at hg ⊢; rw [har]; exact hg
 have hE:=(entE_iff _).1 (ent_ok h.pt p n)
 have hin:=ent_in hk
 obtain ⟨hsh,hfi⟩:=shA_pg hg
 by_cases k2:(ent k.m p n).k = 2
 ·have hs:(ent k.m p n).n.toNat < k.m.sl.length:=by have:=hfit.sw k2; omega
  have hfew:=h.fewS hs
  have hpos:0 < holdN k.m 2 ((ent k.m p n).n.toNat:Nat):=(hold_pos (by decide)).2 ⟨p,n,hin.1,hin.2,k2,by omega⟩
  have hcs:=h.cs _ hs
  have hn:(ent k.m p n).n = (((ent k.m p n).n.toNat:Nat):Int):=by omega
  have h00:sholdE k.m.sl (((ent k.m p n).n.toNat:Nat):Int) 1 = 0:=by
   have e1:atI k.m.sl (((ent k.m p n).n.toNat:Nat):Int) = slN k.m (ent k.m p n).n.toNat:=rfl
   unfold sholdE
   rw [if_neg (by rw [h.pt.sl]; simp),if_neg (by rw [e1]; omega),if_neg (by rw [e1]; omega)]
  obtain ⟨a1,a2⟩:=share_slot h hc k2 hn hq h0 hg hgq
  have hpt1:Pt (setSl k.m (ent k.m p n).n.toNat (slN k.m (ent k.m p n).n.toNat + 1)):=h.pt.setSl (by omega) (by omega)
  obtain ⟨s0,b1,b2⟩:=enter_ok (k:=⟨setSl k.m (ent k.m p n).n.toNat (slN k.m (ent k.m p n).n.toNat + 1),k.e⟩) (p:=q) (n:=n) (x:=ent k.m p n) hpt1 hin.2 (ent_ok h.pt p n)
  have hent:=fun a j=>ent_set (m:=setSl k.m (ent k.m p n).n.toNat (slN k.m (ent k.m p n).n.toNat + 1)) (p:=q) hq s0 a j
  refine ⟨_,?_,a1,a2,?_,rfl,rfl,rfl,rfl,rfl,List.length_set,fun _ => .refl _,fun s => ?_,fun a j ha => ?_,fun j hj => ?_,fun j hj => ?_⟩
  ·unfold shareK
   simp only
   rw [if_pos k2,if_neg (by rw [hn]; rw [h00]; simp)]
   have:holdL k.m.sl (ent k.m p n).n 1 = (setSl k.m (ent k.m p n).n.toNat (slN k.m (ent k.m p n).n.toNat + 1)).sl:=by
    unfold holdL
    rw [if_pos (by rw [hn]; exact h00)]
    rfl
   rw [this]
   exact b1
  ·have hsk0:Skel k.m (setSl k.m (ent k.m p n).n.toNat (slN k.m (ent k.m p n).n.toNat + 1)):=Skel.of rfl
   exact hsk0.trans Skel.setTb
  ·have e1:slN (setE' (setSl k.m (ent k.m p n).n.toNat (slN k.m (ent k.m p n).n.toNat + 1)) q n (ent k.m p n)) s = slN (setSl k.m (ent k.m p n).n.toNat (slN k.m (ent k.m p n).n.toNat + 1)) s:=rfl
   rw [e1,slN_set hs]
   by_cases e:s = (ent k.m p n).n.toNat
   ·subst e; rw [if_pos rfl]; omega
   ·rw [if_neg e]
  ·have:ent (setE' (setSl k.m (ent k.m p n).n.toNat (slN k.m (ent k.m p n).n.toNat + 1)) q n (ent k.m p n)) a j = ent k.m a j:=by
    have:=hent a j
    rw [if_neg (fun h'=>ha h'.1)] at this
    exact this
   rw [this]; exact ⟨rfl,rfl⟩
  ·have hj':=List.mem_singleton.1 hj
   subst hj'
   have:=hent q j
   rw [if_pos ⟨rfl,rfl⟩] at this
   exact ⟨congrArg En.k this,congrArg En.n this⟩
  ·have:=hent q j
   rw [if_neg (fun h'=>hj (List.mem_singleton.2 h'.2))] at this
   exact this
 ·have k1:(ent k.m p n).k = 1:=by omega
  obtain ⟨f,e1,hf,hr,hp,hnn,g0,hg0,hfit0⟩:=ent_frame h k1
  rw [hg] at hg0
  cases hg0
  have hfew:=h.fewR hf
  obtain ⟨a1,a2⟩:=fhold_ok (k:=k) (f:=f) (n:=1) h.pt hf hr (by omega) (by omega)
  have hup:heldF (frN k.m f) 1 = upFr (frN k.m f):=by unfold heldF; rw [if_neg (by omega)]; rfl
  rw [hup] at a1 a2
  have hfrs:∀ y,LikeR (frN k.m y) (frN (setFr k.m f (upFr (frN k.m f))) y):=fun y=>by
   rw [frN_set hf]
   by_cases e:y = f
   ·subst e; rw [if_pos rfl]; exact .up hr hfew.1
   ·rw [if_neg e]; exact .refl _
  have hsk0:Skel k.m (setFr k.m f (upFr (frN k.m f))):=Skel.of rfl
  have hk' : (1:Int) = (ent k.m p n).k:=k1.symm
  by_cases hs:g.sh = true
  ·obtain ⟨s0,b1,b2⟩:=enter_ok (k:=⟨setFr k.m f (upFr (frN k.m f)),k.e⟩) (p:=q) (n:=n) (x:=ent k.m p n) a2 hnn (ent_ok h.pt p n)
   have hent:=fun a j=>ent_set (m:=setFr k.m f (upFr (frN k.m f))) (p:=q) hq s0 a j
   obtain ⟨c1,c2⟩:=share_same h hc k1 e1 hq h0 hg hgq (fun _=>hs) (fun hx=>by
    have:=hfit0.2.1 hs; omega)
   refine ⟨_,?_,c1,c2,hsk0.trans Skel.setTb,rfl,rfl,rfl,rfl,setFr_len,rfl,hfrs,fun _=>Iff.rfl,fun a j ha => ?_,fun j hj => ?_,fun j hj => ?_⟩
   ·unfold shareK
    simp only
    rw [if_neg k2,hsh,if_pos hs]
    rw [show fholdK k (ent k.m p n).n 1 = fholdK k (f:Int) 1 by rw [e1],a1,b1]
    rfl
   ·have:=hent a j
    rw [if_neg (fun h'=>ha h'.1)] at this
    exact ⟨congrArg En.k this,congrArg En.n this⟩
   ·have hj':=List.mem_singleton.1 hj
    subst hj'
    have:=hent q j
    rw [if_pos ⟨rfl,rfl⟩] at this
    exact ⟨congrArg En.k this,congrArg En.n this⟩
   ·have:=hent q j
    rw [if_neg (fun h'=>hj (List.mem_singleton.2 h'.2))] at this
    exact this
  ·have hxE:entE ⟨1,f,false⟩ = 0:=(entE_iff _).2 (.inr (.inl ⟨rfl,by show (0:Int) ≤ f; omega,by have:=((wrongM_iff _).1 h.pt.fr).1; show (f:Int) < 40; omega⟩))
   obtain ⟨s0,b1,b2⟩:=enter_ok (k:=⟨setFr k.m f (upFr (frN k.m f)),k.e⟩) (p:=p) (n:=n) (x:=⟨1,f,false⟩) a2 hnn hxE
   obtain ⟨t0,d1,d2⟩:=enter_ok (k:=⟨setTb (setFr k.m f (upFr (frN k.m f))) p (setT (spN (setFr k.m f (upFr (frN k.m f))) p).tb n ⟨1,f,false⟩),k.e⟩) (p:=q) (n:=n) (x:=⟨1,f,false⟩) b2 hnn hxE
   have hent1:=fun a j=>ent_set (m:=setFr k.m f (upFr (frN k.m f))) (p:=p) hp s0 a j
   have hent2:=fun a j=>ent_set (m:=setE' (setFr k.m f (upFr (frN k.m f))) p n ⟨1,f,false⟩) (p:=q) (by show q < (setTb _ _ _).sp.length; rw [setTb_len]; exact hq) t0 a j
   obtain ⟨c1,c2⟩:=share_less h hc hpq k1 e1 hq h0 hg hgq
   refine ⟨_,?_,c1,c2,(hsk0.trans Skel.setTb).trans Skel.setTb,rfl,rfl,rfl,rfl,setFr_len,rfl,hfrs,fun _=>Iff.rfl,fun a j ha => ?_,fun j hj => ?_,fun j hj => ?_⟩
   ·unfold shareK
    simp only
    rw [if_neg k2,hsh,if_neg hs,k1]
    rw [show fholdK k (ent k.m p n).n 1 = fholdK k (f:Int) 1 by rw [e1],a1,e1,b1,d1]
    rfl
   ·have h2:=hent2 a j
    rw [if_neg (fun h'=>ha h'.1)] at h2
    have h1:=hent1 a j
    have h3:ent (setE' (setE' (setFr k.m f (upFr (frN k.m f))) p n ⟨1,f,false⟩) q n ⟨1,f,false⟩) a j = if a = p ∧ j = n then ⟨1,f,false⟩ else ent k.m a j:=h2.trans h1
    rw [h3]
    by_cases e:a = p ∧ j = n
    ·rw [if_pos e,e.1,e.2]; exact ⟨k1.symm,e1.symm⟩
    ·rw [if_neg e]; exact ⟨rfl,rfl⟩
   ·have hj':=List.mem_singleton.1 hj
    subst hj'
    have h2:=hent2 q j
    rw [if_pos ⟨rfl,rfl⟩] at h2
    have h3:ent (setE' (setE' (setFr k.m f (upFr (frN k.m f))) p j ⟨1,f,false⟩) q j ⟨1,f,false⟩) q j = ⟨1,f,false⟩:=h2
    rw [h3]
    exact ⟨k1.symm,e1.symm⟩
   ·have h2:=hent2 q j
    rw [if_neg (fun h'=>hj (List.mem_singleton.2 h'.2))] at h2
    have h1:=hent1 q j
    rw [if_neg (fun h'=>hpq h'.1.symm)] at h1
    exact h2.trans h1
theorem Shared.refl {m:Ma} (h:Rt m) (hc:Co m) (p q:Nat):Shared m m p q []:=⟨h,hc,.refl _,rfl,rfl,rfl,rfl,rfl,rfl,fun _ => .refl _,fun _=>Iff.rfl,fun _ _ _=>⟨rfl,rfl⟩,fun j hj=>(by cases hj),fun _ _=>rfl⟩
theorem Shared.trans {a b c:Ma} {p q:Nat} {D E:List Int} (hpq:p ≠ q) (h:Shared a b p q D) (k:Shared b c p q E) (hde:∀ j ∈ D,¬ j ∈ E):Shared a c p q (D ++ E):=by
 refine ⟨k.rt,k.co,h.sk.trans k.sk,k.st.trans h.st,k.dk.trans h.dk,k.sw.trans h.sw,k.ca.trans h.ca,k.len.trans h.len,k.sll.trans h.sll,fun g=>(h.fr g).trans (k.fr g),fun s=>(k.sl s).trans (h.sl s),fun x j hx => ?_,fun j hj => ?_,fun j hj => ?_⟩
 ·have h1:=h.oth x j hx; have h2:=k.oth x j hx
  exact ⟨h2.1.trans h1.1,h2.2.trans h1.2⟩
 ·rcases List.mem_append.1 hj with hj | hj
  ·rw [k.chn j (hde j hj)]; exact h.chd j hj
  ·have h1:=k.chd j hj; have h2:=h.oth p j hpq
   exact ⟨h1.1.trans h2.1,h1.2.trans h2.2⟩
 ·rw [k.chn j (fun h'=>hj (List.mem_append.2 (.inr h'))),h.chn j (fun h'=>hj (List.mem_append.2 (.inl h')))]
theorem shares_ok {p q:Nat} (hpq:p ≠ q):∀ (l:List Int) (k:Kp),Rt k.m → Co k.m → q < k.m.sp.length → (spN k.m q).ar = (spN k.m p).ar → l.Nodup → (∀ n ∈ l,(ent k.m p n).k ≠ 0 ∧ (ent k.m q n).k = 0) →
  ∃ m',sharesK k p q l = ⟨m',k.e⟩ ∧ Shared k.m m' p q l
 | [],k,h,hc,_,_,_,_=>⟨k.m,rfl,.refl h hc p q⟩
 | n :: l,k,h,hc,hq,har,hnd,hl=>by
  obtain ⟨m1,e1,h1⟩:=share_step h hc hpq hq har (hl n List.mem_cons_self).1 (hl n List.mem_cons_self).2
  have hnd':=List.nodup_cons.1 hnd
  obtain ⟨m2,e2,h2⟩:=shares_ok hpq l ⟨m1,k.e⟩ h1.rt h1.co (by show q < m1.sp.length; rw [h1.sk.len]; exact hq) (by show (spN m1 q).ar = (spN m1 p).ar; rw [h1.sk.ar,h1.sk.ar]; exact har) hnd'.2 (fun j hj=>by
   have hne:j ≠ n:=fun e=>hnd'.1 (e ▸ hj)
   have a1:=h1.oth p j hpq
   have a2:=h1.chn j (fun h'=>hne (List.mem_singleton.1 h'))
   have a3:=hl j (List.mem_cons_of_mem _ hj)
   exact ⟨by show (ent m1 p j).k ≠ 0; rw [a1.1]; exact a3.1,by show (ent m1 q j).k = 0; rw [a2]; exact a3.2⟩)
  refine ⟨m2,?_,h1.trans hpq h2 (fun j hj h'=>hnd'.1 (List.mem_singleton.1 hj ▸ h'))⟩
  unfold sharesK at e2 ⊢
  rw [List.foldl_cons,e1,e2]
theorem fhold_sp (k:Kp) (f n:Int):(fholdK k f n).m.sp = k.m.sp:=by unfold fholdK; split <;> rfl
theorem enter_sp (k:Kp) (p:Nat) (n:Int) (e:En):(enterK k p n e).m.sp.length = k.m.sp.length ∧ ∀ j,(spN (enterK k p n e).m j).ar = (spN k.m j).ar:=by
 unfold enterK
 split
 ·refine ⟨by unfold setTb; exact List.length_set,fun j => ?_⟩
  unfold setTb spN
  simp only [List.getD_eq_getElem?_getD,List.getElem?_set]
  split
  ·rename_i e; subst e
   split
   ·simp
   ·rename_i h; rw [List.getElem?_eq_none (by omega)]
  ·rfl
 ·exact ⟨rfl,fun _=>rfl⟩
theorem spH_len {H H' : MH} (h:H'.ma.sp.length = H.ma.sp.length):H'.sp.length = H.sp.length:=by rw [spH,spH] at h; exact h
theorem KS.box {w0 w w' : World} {b y:Nat} {H0 H:MH} (h:KS w0 b H0 w H) (hg:w.grownBy w' (some y)) (hy:w0.heap.size ≤ y):KS w0 b H0 w' H:=
 ⟨hg.os.trans h.os,hg.tape.trans h.tape,hg.output.trans h.output,Nat.le_trans h.size hg.size,fun x hx hn=>(hg.block x (Nat.lt_of_lt_of_le hx h.size) (fun e=>by
  have e' : x = y:=Option.some.inj e
  omega)).trans (h.keep x hx hn),h.sn⟩
def TbN (H:MH) (y:Nat):Prop:=∀ p ∈ H.sp,∀ k:Nat,∀ v,(tsC p.ts)[k]? = some v → v.ownBlock ≠ some y
theorem TbN.new {w:World} {B:Nat} {H:MH} (h:MaO w B H) {y:Nat} (hy:w.heap.size ≤ y):TbN H y:=fun p hp k v hv e=>by
 have ht:=(h.ps p hp).2
 have hk:k < 8:=by
  have:=(Array.getElem?_eq_some_iff.1 hv).1
  rw [ht.sz] at this; exact this
 obtain ⟨v',h1,h2⟩:=ht.own k hk
 rw [hv] at h1
 cases h1
 obtain ⟨cs,hb⟩:=own_blk h2 y e
 have:=hb.lt
 omega
theorem TbO.keepN {w w' : World} {B:Nat} {cs:Array Value} {t:Tb} (h:TbO w B cs t) {g:Nat} (hn:∀ (k:Nat) v,cs[k]? = some v → v.ownBlock ≠ some g) (hgr:w.grownBy w' (some g)):TbO w' B cs t:=
 ⟨h.sz,fun k hk=>by
  obtain ⟨v,h1,h2⟩:=h.own k hk
  exact ⟨v,h1,h2.grown hgr (fun g' hg' e=>hn k v h1 (by rw [hg',← e]))⟩,h.apart⟩
theorem KpO.boxE {w w' : World} {B b y:Nat} {H:MH} {e:Int} (h:KpO w B b H e) {cs:Array Value} (hk:Blk w y cs 67) (hn:TbN H y) (hg:w.grownBy w' (some y)):KpO w' B b H e:=
 have m:=h.ma
 ⟨blk_keep h.blk hk (by decide) hg,h.ge,⟨own_keep m.fr hk (by decide) hg,own_keep m.sl hk (by decide) hg,m.sw.keep hk (by decide) (by decide) hg,m.dk.keep hk (by decide) (by decide) hg,m.st.keep hk (by decide) (by decide) hg,own_keep m.ca hk (by decide) hg,own_keep m.sp hk (by decide) hg,
  fun p hp=>⟨own_keep (m.ps p hp).1 hk (by decide) hg,(m.ps p hp).2.keepN (hn p hp) hg⟩,m.c64⟩,h.tz⟩
theorem entTy:67 ≠ 143 ∧ 67 ≠ 59 ∧ 67 ≠ 85 ∧ 67 ≠ 65:=by decide
theorem enR {w:World} {y:Nat} {x:En} (h:Blk w y (enC x) 67):RdV w (some ⟨y,0,none⟩) [.int .i64 x.k,.int .i64 x.n,.bool x.w]:=blk_part h 0 3
theorem kshare_any (H:MH) (e n:Int) (p q:Nat) (B b:Nat) (w:World) (h:KpO w B b H e) (hp:p < H.sp.length) (hq:q < H.sp.length) (hf:0 ≤ findA (spN H.ma p).ar n) :
  Calls Try.prog 73 #[.pointer (some ⟨b,0,none⟩),.int .i64 p,.int .i64 q,.int .i64 n] w fun r w'=>r = .returned (.tuple #[]) ∧ KR w B b H w' (shareK ⟨H.ma,e⟩ p q n):=by
 obtain ⟨P,hP⟩:∃ P,H.sp[p]? = some P:=⟨_,List.getElem?_eq_getElem hp⟩
 have hsp:=Lib.hid (spN_H hP)
 have hfH:=Lib.hid hf
 clear hf
 obtain ⟨g,off,hap,hrd,hrt,hgood⟩:=h.at hP
 have hc:=h.blk.cell
 unfold kpC at hc
 rw [hap] at hc
 have hpi:(p:Int) < (H.sp.length:Int):=by omega
 go_enter Try.func73,Try.ntmps73
 go_wp2_with (refine wpList_ldg _ _ rfl g (off + p * 10 + 2) rfl rfl _ hrt _ Try.underlying63 tab_agg tab_size ?_)
 refine (tget_lit P.tb (tsC P.ts) n _ hgood.tb).mono ?_
 rintro r w1 ⟨rfl,hb1⟩
 have h1:=h.below hb1
 have s1:=(KS.refl w b H).below hb1
 clear hc hrd hrt hgood
 generalize hx:getT P.tb n = x
 go_wp2_with (refine wpList_stn rfl _ _ _ rfl (enC x) rfl rfl rfl entry_size (by simp [enC,Value.oneCell']) ?_)
 intro w2 hb2 hx2
 have hN2:=Lib.hid (TbN.new h1.ma (Nat.le_refl _))
 have hy2:Hid (w.heap.size ≤ w1.heap.size):=Lib.hid hb1.size
 have h2:=h1.below hb2
 have s2:=s1.below hb2
 clear h1 s1 hb1 hb2 h
 have hc2:=hx2.cell
 unfold enC at hc2
 have hgx:Hid (ent H.ma p n = x):=Lib.hid (by unfold ent; rw [hsp.out]; exact hx)
 clear hx
 by_cases hk2:x.k = 2
 ·rw [hk2] at hc2
  have hxk:=Lib.hid hk2
  clear hk2
  have hck:=h2.blk.cell
  unfold kpC at hck
  go_upto_region 2 with (fail)
  refine wp_growY 13 [ofR 0 (isV (.pointer (some ⟨b,0,none⟩))),ofR 1 (isV (.pointer (some ⟨b,0,none⟩))),ofR 2 (isV (.pointer (some ⟨b,0,none⟩))),ofR 3 (isV (.pointer (some ⟨b,2,none⟩))),ofR 4 (isV (.slice H.asl H.sl.length H.csl)),ofR 5 (isV (.pointer (some ⟨w1.heap.size,1,none⟩))),ofR 6 (isV (.int .i64 x.n)),ofR 7 ((tupO w2.heap.size 3 1 (holdL H.sl x.n 1).length ((holdL H.sl x.n 1).map inV) (sholdE H.sl x.n 1))),ofR 8 ((tupO w2.heap.size 3 1 (holdL H.sl x.n 1).length ((holdL H.sl x.n 1).map inV) (sholdE H.sl x.n 1))),ofR 9 ((ownR w2.heap.size 3 1 (holdL H.sl x.n 1).length ((holdL H.sl x.n 1).map inV))),ofR 10 (isV (.int .i64 (sholdE H.sl x.n 1))),ofR 11 ((ownR w2.heap.size 3 1 (holdL H.sl x.n 1).length ((holdL H.sl x.n 1).map inV))),ofR 12 (isV (.int .i64 (sholdE H.sl x.n 1)))] (fun W=>Below w2.heap.size w2 W) (fun _ _ h h2=>below_next h2 h) (Below.refl _ _) (by kernel_rfl) _ rfl (by kernel_rfl) (by kernel_rfl) (by decide) (by kernel_rfl) _ rfl (by kernel_rfl) (all_cons ?_ (all_cons ?_ (all_cons ?_ (all_cons ?_ (all_cons ?_ (all_cons ?_ (all_cons ?_ (all_cons ?_ (all_cons ?_ (all_cons ?_ (all_cons ?_ (all_cons ?_ (all_cons ?_ (all_nil)))))))))))))) ?_
  ·intro ρ y W hw hn hb hd
   refine askY (fun _ _ h h2=>below_next h2 h) hb (isV (.pointer (some ⟨b,0,none⟩))) (fun _ _ h=>h) ?_
   have E0:ρ (.tmp 0) = .pointer (some ⟨b,0,none⟩):=(hn (.tmp 0) rfl).trans rfl
   refine asked_val (.pointer (some ⟨b,0,none⟩)) (want_free rfl) (run_move (.inl rfl) E0) rfl
  ·intro ρ y W hw hn hb hd
   refine askY (fun _ _ h h2=>below_next h2 h) hb (isV (.pointer (some ⟨b,0,none⟩))) (fun _ _ h=>h) ?_
   have E27:=hw 27 0 rfl
   have h0:y 0 = .pointer (some ⟨b,0,none⟩):=hd 0 rfl
   refine asked_val (.pointer (some ⟨b,0,none⟩)) (want_free rfl) (by simp [execOp,go_sem,stripO,E27,h0]) rfl
  ·intro ρ y W hw hn hb hd
   refine askY (fun _ _ h h2=>below_next h2 h) hb (isV (.pointer (some ⟨b,0,none⟩))) (fun _ _ h=>h) ?_
   have E28:=hw 28 1 rfl
   have h1:y 1 = .pointer (some ⟨b,0,none⟩):=hd 1 rfl
   refine asked_val (.pointer (some ⟨b,0,none⟩)) (want_free rfl) (by simp [execOp,go_sem,stripO,E28,h1]) rfl
  ·intro ρ y W hw hn hb hd
   refine askY (fun _ _ h h2=>below_next h2 h) hb (isV (.pointer (some ⟨b,2,none⟩))) (fun _ _ h=>h) ?_
   have E29:=hw 29 2 rfl
   have h2:y 2 = .pointer (some ⟨b,0,none⟩):=hd 2 rfl
   refine asked_val (.pointer (some ⟨b,2,none⟩)) (want_free rfl) (by simp [execOp,go_sem,stripO,E29,h2]) rfl
  ·intro ρ y W hw hn hb hd
   refine askY (fun _ _ h h2=>below_next h2 h) hb (isV (.slice H.asl H.sl.length H.csl)) (fun _ _ h=>h) ?_
   have E30:=hw 30 3 rfl
   have h3:y 3 = .pointer (some ⟨b,2,none⟩):=hd 3 rfl
   refine asked_val (.slice H.asl H.sl.length H.csl) (want_free rfl) (by simp [execOp,go_sem,stripO,E30,h3,(h2.below hb).blk.cell,kpC]) rfl
  ·intro ρ y W hw hn hb hd
   refine askY (fun _ _ h h2=>below_next h2 h) hb (isV (.pointer (some ⟨w1.heap.size,1,none⟩))) (fun _ _ h=>h) ?_
   have E8:ρ (.tmp 8) = .pointer (some ⟨w1.heap.size,0,none⟩):=(hn (.tmp 8) rfl).trans rfl
   refine asked_val (.pointer (some ⟨w1.heap.size,1,none⟩)) (want_free rfl) (by simp [execOp,go_sem,stripO,E8]) rfl
  ·intro ρ y W hw hn hb hd
   refine askY (fun _ _ h h2=>below_next h2 h) hb (isV (.int .i64 x.n)) (fun _ _ h=>h) ?_
   have E32:=hw 32 5 rfl
   have h5:y 5 = .pointer (some ⟨w1.heap.size,1,none⟩):=hd 5 rfl
   refine asked_val (.int .i64 x.n) (want_free rfl) (by simp [execOp,go_sem,stripO,E32,h5,(hx2.ext hb).cell,enC]) rfl
  ·intro ρ y W hw hn hb hd
   refine askY (fun _ _ h h2=>below_next h2 h) hb ((tupO w2.heap.size 3 1 (holdL H.sl x.n 1).length ((holdL H.sl x.n 1).map inV) (sholdE H.sl x.n 1))) (fun _ _ h=>h) ?_
   have E31:=hw 31 4 rfl
   have h4:y 4 = .slice H.asl H.sl.length H.csl:=hd 4 rfl
   have E33:=hw 33 6 rfl
   have h6:y 6 = .int .i64 x.n:=hd 6 rfl
   have EC:∀ v,ρ (.const v) = v:=fun v=>hn (.const v) trivial
   have EF:∀ f,ρ (.func f) = .func (.func f) #[] #[]:=fun f=>hn (.func f) trivial
   refine asked_call _ _ (want_free rfl) (run_call rfl (EF _) Try.func101 (by kernel_rfl) (by kernel_rfl) (by simp only [List.map_toArray,List.map_cons,List.map_nil,E31,h4,E33,h6,EC,EF]; rfl)) ?_
   have hm:=(h2.below hb).ma.rd.sl
   refine (slhold_any H.sl H.asl H.csl x.n 1 W hm.le hm.nl hm.rd (by have:=hm.le; have:=hm.mx; unfold maxLen at this; omega)).mono ?_
   rintro r W3 ⟨u,rfl,ho,hb3⟩
   exact ⟨_,rfl,hb3,u,rfl,ho.mono hb.size⟩
  ·intro ρ y W hw hn hb hd
   refine askY (fun _ _ h h2=>below_next h2 h) hb ((tupO w2.heap.size 3 1 (holdL H.sl x.n 1).length ((holdL H.sl x.n 1).map inV) (sholdE H.sl x.n 1))) (fun _ _ h=>h) ?_
   have E34:=hw 34 7 rfl
   have h7:=hd 7 rfl
   refine asked_val _ (want_free rfl) (run_move (.inl rfl) E34) ?_
   exact h7
  ·intro ρ y W hw hn hb hd
   refine askY (fun _ _ h h2=>below_next h2 h) hb ((ownR w2.heap.size 3 1 (holdL H.sl x.n 1).length ((holdL H.sl x.n 1).map inV))) (fun _ _ h=>h) ?_
   have E26:=hw 26 8 rfl
   have h8:=hd 8 rfl
   obtain ⟨u,hu,ho⟩:=h8
   refine asked_val u (want_free rfl) (by simp [execOp,go_sem,stripO,E26,hu]) ?_
   exact ho
  ·intro ρ y W hw hn hb hd
   refine askY (fun _ _ h h2=>below_next h2 h) hb (isV (.int .i64 (sholdE H.sl x.n 1))) (fun _ _ h=>h) ?_
   have E26:=hw 26 8 rfl
   have h8:=hd 8 rfl
   obtain ⟨u,hu,ho⟩:=h8
   refine asked_val (.int .i64 (sholdE H.sl x.n 1)) (want_free rfl) (by simp [execOp,go_sem,stripO,E26,hu]) rfl
  ·intro ρ y W hw hn hb hd
   refine askY (fun _ _ h h2=>below_next h2 h) hb ((ownR w2.heap.size 3 1 (holdL H.sl x.n 1).length ((holdL H.sl x.n 1).map inV))) (fun _ _ h=>h) ?_
   have E35:=hw 35 9 rfl
   have h9:=hd 9 rfl
   refine asked_val _ (want_free rfl) (run_move (.inr rfl) E35) ?_
   exact h9
  ·intro ρ y W hw hn hb hd
   refine askY (fun _ _ h h2=>below_next h2 h) hb (isV (.int .i64 (sholdE H.sl x.n 1))) (fun _ _ h=>h) ?_
   have E36:=hw 36 10 rfl
   have h10:y 10 = .int .i64 (sholdE H.sl x.n 1):=hd 10 rfl
   refine asked_val (.int .i64 (sholdE H.sl x.n 1)) (want_free rfl) (run_move (.inr rfl) (E36.trans h10)) rfl
  intro y W3 hbW3 hRW3
  replace hbW3:Below w2.heap.size w2 W3:=hbW3
  have hy0:y 0 = .pointer (some ⟨b,0,none⟩):=hRW3 0 (by decide)
  have hy1:y 1 = .pointer (some ⟨b,0,none⟩):=hRW3 1 (by decide)
  have hy2:y 2 = .pointer (some ⟨b,0,none⟩):=hRW3 2 (by decide)
  have hy3:y 3 = .pointer (some ⟨b,2,none⟩):=hRW3 3 (by decide)
  have hy4:y 4 = .slice H.asl H.sl.length H.csl:=hRW3 4 (by decide)
  have hy5:y 5 = .pointer (some ⟨w1.heap.size,1,none⟩):=hRW3 5 (by decide)
  have hy6:y 6 = .int .i64 x.n:=hRW3 6 (by decide)
  have hy10:y 10 = .int .i64 (sholdE H.sl x.n 1):=hRW3 10 (by decide)
  have hy12:y 12 = .int .i64 (sholdE H.sl x.n 1):=hRW3 12 (by decide)
  have hy7:((tupO w2.heap.size 3 1 (holdL H.sl x.n 1).length ((holdL H.sl x.n 1).map inV) (sholdE H.sl x.n 1))).r (y 7) W3:=hRW3 7 (by decide)
  have hy8:((tupO w2.heap.size 3 1 (holdL H.sl x.n 1).length ((holdL H.sl x.n 1).map inV) (sholdE H.sl x.n 1))).r (y 8) W3:=hRW3 8 (by decide)
  have hy9:((ownR w2.heap.size 3 1 (holdL H.sl x.n 1).length ((holdL H.sl x.n 1).map inV))).r (y 9) W3:=hRW3 9 (by decide)
  have hy11:((ownR w2.heap.size 3 1 (holdL H.sl x.n 1).length ((holdL H.sl x.n 1).map inV))).r (y 11) W3:=hRW3 11 (by decide)
  clear hRW3
  simp only [lay,strip,stripO,List.map_cons,List.map_nil,Nat.reduceAdd,Nat.reduceLT,decide_true,decide_false,if_true,Bool.false_eq_true,if_false,List.setIfInBounds_toArray,List.set_cons_zero,List.set_cons_succ,List.drop_succ_cons,List.drop_zero,List.drop_nil,hy0,hy1,hy2,hy3,hy4,hy5,hy6,hy10,hy12]
  clear hy0 hy1 hy2 hy3 hy4 hy5 hy6 hy10 hy12
  have ho3:Own W3 w2.heap.size 3 1 (y 11) (holdL H.sl x.n 1).length ((holdL H.sl x.n 1).map inV):=hy11
  obtain ⟨a3,c3,e7,_⟩:=Own.rd ho3
  rw [e7] at ho3
  simp only [e7]
  have k3:=h2.below hbW3
  have s3:=s2.below hbW3
  have hx3:=hx2.ext hbW3
  have hge:=Lib.hid (Nat.le_trans h2.bs (Nat.le_refl _))
  clear hy7 hy8 hy9 hy11 e7 hc2 hck h2 s2 hx2 hbW3
  by_cases h0:sholdE H.sl x.n 1 = 0
  ·have hq2:Hid (shareK ⟨H.ma,e⟩ p q n = enterK ⟨{ H.ma with sl:=holdL H.sl x.n 1 },e⟩ q n x):=Lib.hid (by
    unfold shareK
    simp only [hgx.out]
    rw [if_pos hxk.out]
    exact if_neg (fun h=>h h0))
   rw [h0]
   go_wp2_with (first | (refine wpList_stv rfl _ _ _ rfl b 2 _ [.slice a3 (holdL H.sl x.n 1).length c3] rfl rfl rfl _ _ k3.blk (by show 2 + 1 ≤ 12; decide) slots_size (fun u hu=>by cases List.mem_singleton.1 hu; rfl) ?_))
   intro w5 hb5 hg5
   have k5:=k3.setL (ho3.mono hge.out) hb5 hg5
   have s5:KS w b H w5 { H with asl:=a3,csl:=c3,sl:=holdL H.sl x.n 1 }:=s3.putB hg5 rfl rfl rfl
   have hx5:=enR (blk_keep hx3 k3.blk (by decide) hg5)
   clear s3 k3 ho3 hx3
   go_wp2_with (refine wpList_ldg _ _ rfl w1.heap.size 0 rfl rfl _ hx5 _ Try.underlying67 rfl entry_size ?_)
   refine (kenter_any _ e n q x B b _ k5 hq).mono ?_
   rintro r w6 ⟨rfl,hk6⟩
   go_wp2
   simp [bodyPost,results,go_sem,Try.results73]
   rw [hq2.out]
   exact KR.trans s5 hk6
  ·have hq2:Hid (shareK ⟨H.ma,e⟩ p q n = ⟨H.ma,sholdE H.sl x.n 1⟩):=Lib.hid (by
    unfold shareK
    simp only [hgx.out]
    rw [if_pos hxk.out]
    exact if_pos h0)
   go_wp2_with (refine wpList_stv rfl _ _ _ rfl b 11 _ [.int .i64 (sholdE H.sl x.n 1)] rfl rfl rfl _ _ k3.blk (by show 11 + 1 ≤ 12; decide) (by kernel_rfl) (fun u hu=>by cases List.mem_singleton.1 hu; rfl) ?_)
   intro w5 hb5 hg5
   have k5:=k3.setE hb5 hg5
   have s5:KS w b H w5 H:=s3.putB hg5 rfl rfl rfl
   go_wp2
   simp [bodyPost,results,go_sem,Try.results73]
   rw [hq2.out]
   exact ⟨_,_,k5,s5,rfl⟩
 ·go_wp2_with fail
  refine (khold_sp H e x.n 1 B b _ h2).mono ?_
  rintro r w3 ⟨rfl,H3,e3,h3,s3,q3,hs3⟩
  have hx3:=s3.blk h2 hx2 entTy
  have s3':=s2.trans s3
  have hN3:Hid (TbN H3 w1.heap.size):=Lib.hid (by unfold TbN; rw [hs3]; exact hN2.out)
  have hP3:H3.sp[p]? = some P:=by rw [hs3]; exact hP
  have hq3:=Lib.hid q3
  have hl3:=Lib.hid hs3
  clear hc2 s3 q3 hs3 h2 s2 hx2 hN2
  obtain ⟨g3,off3,hap3,hrd3,hrt3,hgood3⟩:=h3.at hP3
  have hA:=hgood3.ars
  have hc3:=h3.blk.cell
  unfold kpC at hc3
  rw [hap3,hl3.out] at hc3
  have hcA:w3.cell? ⟨g3,off3 + p * 10 + 1,none⟩ = some (.slice P.aa P.ar.length P.ac):=by
   obtain ⟨b',o',e',hc'⟩:=hrd3 1 _ rfl
   cases e'
   exact hc'
  go_wp2_with fail
  refine (afind_any P.ar n P.aa P.ac _ hA.rd (by have:=hA.le; have:=hA.mx; unfold maxLen at this; omega)).mono ?_
  rintro r w4 ⟨rfl,hb4⟩
  clear hc3 hcA hrd3 hrt3
  obtain ⟨k,hk,hkl,_⟩:=idx_nat (q:=inA n) (l:=P.ar) (by show 0 ≤ findA P.ar n; have:=hfH.out; rw [hsp.out] at this; exact this)
  have hk' : findA P.ar n = k:=hk
  obtain ⟨ba,oa,haa,hard⟩:=elemR arL_len (by decide) (hA.below hb4).rd k hkl
  have hsh:Hid (shA (spN H.ma p).ar n = (P.ar[k]).sh):=Lib.hid (by
   rw [hsp.out]
   unfold shA
   show (P.ar.getD (findA P.ar n).toNat zAr).sh = _
   rw [hk',Int.toNat_natCast,List.getD_eq_getElem?_getD,List.getElem?_eq_getElem hkl]; rfl)
  generalize P.ar[k] = a at *
  rw [hk']
  have h4:=h3.below hb4
  have s4:=s3'.below hb4
  have hx4:=hx3.ext hb4
  obtain ⟨g4,off4,hap4,hrd4,hrt4,hgood4⟩:=h4.at hP3
  have hc4:=h4.blk.cell
  unfold kpC at hc4
  rw [hap4,hl3.out] at hc4
  have hcA:w4.cell? ⟨g4,off4 + p * 10 + 1,none⟩ = some (.slice P.aa P.ar.length P.ac):=by
   obtain ⟨b',o',e',hc'⟩:=hrd4 1 _ rfl
   cases e'
   exact hc'
  rw [haa] at hcA
  have hcS:w4.cell? ⟨ba,oa + k * 7 + 4,none⟩ = some (.bool a.sh):=by
   obtain ⟨b',o',e',hc'⟩:=hard 4 _ rfl
   cases e'
   exact hc'
  have hki:(k:Int) < (P.ar.length:Int):=by omega
  have hq' : Hid (q < H3.sp.length):=Lib.hid (by rw [hl3.out]; exact hq)
  have hp' : Hid (p < H3.sp.length):=Lib.hid (by rw [hl3.out]; exact hp)
  clear hk hk' hA hrd4 hrt4 hgood4 hgood3 h3 s3' hx3 hard
  have hne:=Lib.hid hk2
  clear hk2
  cases hash:a.sh with
  | true=>
   rw [hash] at hcS
   have hq2:Hid (shareK ⟨H.ma,e⟩ p q n = enterK (fholdK ⟨H.ma,e⟩ x.n 1) q n x):=Lib.hid (by
    unfold shareK
    simp only [hgx.out]
    rw [if_neg hne.out,if_pos (by rw [hsh.out]; exact hash)])
   have hx5:=enR hx4
   go_wp2_with (refine wpList_ldg _ _ rfl w1.heap.size 0 rfl rfl _ hx5 _ Try.underlying67 rfl entry_size ?_)
   refine (kenter_any H3 e3 n q x B b _ h4 hq'.out).mono ?_
   rintro r w6 ⟨rfl,hk6⟩
   go_wp2
   simp [bodyPost,results,go_sem,Try.results73]
   rw [hq2.out,← hq3.out]
   exact KR.trans s4 hk6
  | false=>
   rw [hash] at hcS
   have hq2:Hid (shareK ⟨H.ma,e⟩ p q n = enterK (enterK (fholdK ⟨H.ma,e⟩ x.n 1) p n ⟨x.k,x.n,false⟩) q n ⟨x.k,x.n,false⟩):=Lib.hid (by
    unfold shareK
    simp only [hgx.out]
    rw [if_neg hne.out,if_neg (by rw [hsh.out,hash]; decide)])
   go_wp2_with (refine wpList_stv rfl _ _ _ rfl w1.heap.size 2 _ [.bool false] rfl rfl rfl _ _ hx4 (by show 2 + 1 ≤ 3; decide) (by kernel_rfl) (fun u hu=>by cases List.mem_singleton.1 hu; rfl) ?_)
   intro w5 hb5 hg5
   have k5:=h4.boxE hx4 hN3.out hg5
   have s5:=s4.box hg5 hy2.out
   have hx5:Blk w5 w1.heap.size (enC ⟨x.k,x.n,false⟩) 67:=hb5
   have hr5:=enR hx5
   clear hcA hcS hc4 h4 s4 hx4 hb5
   go_wp2_with (refine wpList_ldg _ _ rfl w1.heap.size 0 rfl rfl _ hr5 _ Try.underlying67 rfl entry_size ?_)
   refine (kenter_any H3 e3 n p ⟨x.k,x.n,false⟩ B b _ k5 hp'.out).mono ?_
   rintro r w6 ⟨rfl,H6,e6,h6,s6,q6⟩
   have hr6:=enR (s6.blk k5 hx5 entTy)
   have s6':=s5.trans s6
   have hq6:=Lib.hid q6
   have hl6:Hid (q < H6.sp.length):=Lib.hid (by
    have e1:=congrArg (fun k=>k.m.sp.length) q6
    have e2:=(enter_sp ⟨H3.ma,e3⟩ p n ⟨x.k,x.n,false⟩).1
    rw [spH_len (e1.trans e2)]
    exact hq'.out)
   clear s6 q6 s5 k5 hx5 hr5
   go_wp2_with (refine wpList_ldg _ _ rfl w1.heap.size 0 rfl rfl _ hr6 _ Try.underlying67 rfl entry_size ?_)
   refine (kenter_any H6 e6 n q ⟨x.k,x.n,false⟩ B b _ h6 hl6.out).mono ?_
   rintro r w7 ⟨rfl,hk7⟩
   go_wp2
   simp [bodyPost,results,go_sem,Try.results73]
   rw [hq2.out,← hq3.out,← hq6.out]
   exact KR.trans s6' hk7
structure Forked (m m' : Ma) (p q:Nat):Prop where
 rt:Rt m'
 co:Co m'
 st:m'.st = m.st
 dk:m'.dk = m.dk
 sw:m'.sw = m.sw
 ca:m'.ca = m.ca
 len:m'.m.fs.length = m.m.fs.length
 sll:m'.sl.length = m.sl.length
 fr:∀ g,LikeR (frN m g) (frN m' g)
 sl:∀ s,slN m' s = 0 ↔ slN m s = 0
 spl:m'.sp.length = max m.sp.length (q + 1)
 spq:(spN m' q).lv = true ∧ (spN m' q).ar = (spN m p).ar
 spo:∀ a,a ≠ q → (spN m' a).lv = (spN m a).lv ∧ (spN m' a).ar = (spN m a).ar
 oth:∀ a j,a ≠ q → alike (ent m a j) (ent m' a j)
 chd:∀ j,alike (ent m p j) (ent m' q j)
theorem spN_app {m:Ma} {s:Sp} (q:Nat):spN { m with sp:=m.sp ++ [s] } q = if q = m.sp.length then s else spN m q:=by
 unfold spN
 show (m.sp ++ [s]).getD q zSp = _
 rw [List.getD_eq_getElem?_getD,List.getElem?_append]
 by_cases e:q < m.sp.length
 ·rw [if_pos e,if_neg (by omega),List.getD_eq_getElem?_getD]
 ·rw [if_neg e]
  by_cases e2:q = m.sp.length
  ·rw [if_pos e2,e2,Nat.sub_self]; rfl
  ·rw [if_neg e2,List.getD_eq_getElem?_getD,List.getElem?_eq_none (by simp; omega),List.getElem?_eq_none (by omega)]
theorem newSp_ok {m:Ma} (h:Rt m) (hc:Co m) {p q:Nat} (hp:p < m.sp.length) (hq:q = m.sp.length ∧ m.sp.length < 4 ∨ q < m.sp.length ∧ (spN m q).lv = false) :
  Rt (newSp m p q) ∧ Co (newSp m p q) ∧ (newSp m p q).sp.length = max m.sp.length (q + 1) ∧ (∀ a,spN (newSp m p q) a = if a = q then ⟨true,(spN m p).ar,zTb⟩ else spN m a):=by
 unfold newSp
 rcases hq with ⟨hq,hl⟩ | ⟨hq,hv⟩
 ·rw [if_pos hq]
  have:=more_space h hc (s:=⟨true,(spN m p).ar,zTb⟩) hl rfl (h.pt.arN p) rfl
  refine ⟨this.1,this.2,by simp; omega,fun a => ?_⟩
  rw [spN_app,hq]
 ·rw [if_neg (by omega)]
  have:=set_space h hc (q:=q) (s:=⟨true,(spN m p).ar,zTb⟩) hq (h.live q hv).2 (h.pt.arN p) (fun e=>by cases e) rfl
  refine ⟨this.1,this.2,by unfold setSp; rw [List.length_set]; omega,fun a=>spN_setSp hq a⟩
theorem fork_ok {m:Ma} (h:Rt m) (hc:Co m) {p q:Nat} (hp:p < m.sp.length) (hv:(spN m p).lv = true) (hq:q = m.sp.length ∧ m.sp.length < 4 ∨ q < m.sp.length ∧ (spN m q).lv = false) :
  ∃ m',forkK m p q = ⟨m',0⟩ ∧ Forked m m' p q:=by
 obtain ⟨a1,a2,a3,a4⟩:=newSp_ok h hc hp hq
 have hpq:p ≠ q:=by
  rintro rfl
  rcases hq with ⟨e,_⟩ | ⟨_,e⟩
  ·omega
  ·rw [hv] at e; cases e
 have hm0:(newSp m p q).m = m.m ∧ (newSp m p q).st = m.st ∧ (newSp m p q).dk = m.dk ∧ (newSp m p q).sw = m.sw ∧ (newSp m p q).ca = m.ca ∧ (newSp m p q).sl = m.sl:=by
  unfold newSp setSp
  split <;> exact ⟨rfl,rfl,rfl,rfl,rfl,rfl⟩
 obtain ⟨g1,g2,g3,g4,g5,g6⟩:=hm0
 have hentp:∀ a j,a ≠ q → ent (newSp m p q) a j = ent m a j:=fun a j ha=>by unfold ent; rw [a4,if_neg ha]
 have hentq:∀ j,ent (newSp m p q) q j = zEn:=fun j=>by unfold ent; rw [a4,if_pos rfl,zTb_get]
 obtain ⟨m',e1,hS⟩:=shares_ok hpq (pagesL (spN m p).tb) ⟨newSp m p q,0⟩ a1 a2 (by show q < (newSp m p q).sp.length; omega) (by show (spN (newSp m p q) q).ar = (spN (newSp m p q) p).ar; rw [a4,a4,if_pos rfl,if_neg hpq]) (pages_nodup _) (fun n hn=>by
  have:=mem_pages.1 hn
  refine ⟨by show (ent (newSp m p q) p n).k ≠ 0; rw [hentp p n hpq]; exact this.2,by show (ent (newSp m p q) q n).k = 0; rw [hentq]; rfl⟩)
 have hfr:∀ g,frN (newSp m p q) g = frN m g:=fun g=>frN_of g1 g
 have hsl:∀ s,slN (newSp m p q) s = slN m s:=fun s=>by unfold slN; rw [g6]
 refine ⟨m',e1,hS.rt,hS.co,hS.st.trans g2,hS.dk.trans g3,hS.sw.trans g4,hS.ca.trans g5,hS.len.trans (by show (newSp m p q).m.fs.length = _; rw [g1]),hS.sll.trans (by show (newSp m p q).sl.length = _; rw [g6]),fun g=>by rw [← hfr]; exact hS.fr g,fun s=>by rw [← hsl]; exact hS.sl s,?_,?_,fun a ha => ?_,fun a j ha => ?_,fun j => ?_⟩
 ·exact hS.sk.len.trans a3
 ·refine ⟨(hS.sk.lv q).trans ?_,(hS.sk.ar q).trans ?_⟩
  ·show (spN (newSp m p q) q).lv = true; rw [a4,if_pos rfl]
  ·show (spN (newSp m p q) q).ar = _; rw [a4,if_pos rfl]
 ·refine ⟨(hS.sk.lv a).trans ?_,(hS.sk.ar a).trans ?_⟩
  ·show (spN (newSp m p q) a).lv = _; rw [a4,if_neg ha]
  ·show (spN (newSp m p q) a).ar = _; rw [a4,if_neg ha]
 ·rw [← hentp a j ha]; exact hS.oth a j ha
 ·by_cases hj:j ∈ pagesL (spN m p).tb
  ·have:=hS.chd j hj
   rw [show ent (Kp.m ⟨newSp m p q,0⟩) p j = ent m p j from hentp p j hpq] at this
   exact this
  ·have h1:ent m' q j = ent (newSp m p q) q j:=hS.chn j hj
   rw [h1,hentq]
   have h2:(ent m p j).k = 0:=by
    by_cases hb:0 ≤ j ∧ j < 64
    ·by_cases h3:(ent m p j).k = 0
     ·exact h3
     ·exact absurd (mem_pages.2 ⟨hb,h3⟩) hj
    ·rw [ent_out p (by omega)]; rfl
   have h3:=(entE_iff _).1 (ent_ok h.pt p j)
   exact ⟨h2.symm,by show (0:Int) = _; omega⟩
theorem see_alike {m m' : Ma} {p q:Nat} {n:Int} (hst:m'.st = m.st) (hdk:m'.dk = m.dk) (hsw:m'.sw = m.sw) (hca:m'.ca = m.ca) (hfr:∀ g,(frN m' g).p = (frN m g).p ∧ (frN m' g).f = (frN m g).f) (har:(spN m' q).ar = (spN m p).ar) (he:alike (ent m p n) (ent m' q n)):seeN m' q n = seeN m p n:=by
 have hcon:∀ a b,contentP m' a b = contentP m a b:=fun a b=>by
  unfold contentP
  rw [hca,hst,hdk]
  cases m.ca.find? fun c=>decide (c.f = a) && decide (c.i = b) with
  | none=>rfl
  | some c=>exact (hfr c.k.toNat).1
 have hp:pgA m' q n = pgA m p n:=by unfold pgA; rw [har]
 cases hg:pgA m p n with
 | none=>rw [seeN_none hg,seeN_none (hp.trans hg)]
 | some g=>
  rw [seeN_some hg,seeN_some (hp.trans hg)]
  unfold seeE
  rw [he.1,he.2,hsw,hst,hcon]
  have h1:=(hfr (ent m p n).n.toNat).1
  have h2:=(hfr (ent m p n).n.toNat).2
  have h1' : (frAt m' (ent m p n).n).p = (frAt m (ent m p n).n).p:=h1
  have h2' : (frAt m' (ent m p n).n).f = (frAt m (ent m p n).n).f:=h2
  rw [h1',h2']
structure Cleared (m m' : Ma) (p:Nat) (D:Int → Prop):Prop where
 rt:Rt m'
 co:Co m'
 vis:VisX (fun q j=>q = p ∧ D j) m m'
 st:m'.st = m.st
 dk:m'.dk = m.dk
 sw:m'.sw = m.sw
 ca:m'.ca = m.ca
 len:m'.m.fs.length = m.m.fs.length
 sll:m'.sl.length = m.sl.length
 ents:∀ q j,(q = p ∧ D j → ent m' q j = zEn) ∧ (¬ (q = p ∧ D j) → ent m' q j = ent m q j)
 fr:∀ g,(frN m' g).r ≠ 0 → (frN m' g).p = (frN m g).p ∧ (frN m' g).u = (frN m g).u ∧ (frN m' g).d = (frN m g).d ∧ (frN m' g).f = (frN m g).f ∧ (frN m' g).i = (frN m g).i
theorem Less.zero {m:Ma} (h:Rt m) (hc:Co m) {p:Nat} {n:Int} (h0:(ent m p n).k = 0):Less m m p n:=by
 refine ⟨h,hc,.refl _ _,rfl,rfl,rfl,rfl,rfl,rfl,fun q j => ?_,fun _ _=>⟨rfl,rfl,rfl,rfl,rfl⟩⟩
 by_cases e:q = p ∧ j = n
 ·rw [if_pos e,e.1,e.2]
  have hE:=(entE_iff _).1 (ent_ok h.pt p n)
  rcases hE with hE | hE | hE
  ·show ent m p n = ⟨0,0,false⟩
   cases hx:ent m p n
   rw [hx] at hE
   simp only at hE
   rw [hE.1,hE.2.1,hE.2.2]
  ·omega
  ·omega
 ·rw [if_neg e]
theorem drop_less {k:Kp} (h:Rt k.m) (hc:Co k.m) (p:Nat) (n:Int):∃ m',dropK k p n = ⟨m',k.e⟩ ∧ Less k.m m' p n:=by
 rcases drop_ok h hc p n with ⟨h0,e⟩ | h'
 ·exact ⟨k.m,e,.zero h hc h0⟩
 ·exact h'
theorem clears_ok (p:Nat) (a n:Int):∀ (l:List Int) (k:Kp),Rt k.m → Co k.m → ∃ m',clearsK k p a n l = ⟨m',k.e⟩ ∧ Cleared k.m m' p (fun j=>j ∈ l ∧ inN a n j = true)
 | [],k,h,hc=>⟨k.m,rfl,h,hc,.refl _ _,rfl,rfl,rfl,rfl,rfl,rfl,fun q j=>⟨fun h'=>absurd h'.2.1 (by simp),fun _=>rfl⟩,fun _ _=>⟨rfl,rfl,rfl,rfl,rfl⟩⟩
 | i :: l,k,h,hc=>by
  by_cases hi:inN a n i = true
  ·obtain ⟨m1,e1,h1⟩:=drop_less h hc p i
   obtain ⟨m2,e2,h2⟩:=clears_ok p a n l ⟨m1,k.e⟩ h1.rt h1.co
   refine ⟨m2,?_,h2.rt,h2.co,?_,h2.st.trans h1.st,h2.dk.trans h1.dk,h2.sw.trans h1.sw,h2.ca.trans h1.ca,h2.len.trans h1.len,h2.sll.trans h1.sll,fun q j=>⟨fun ⟨hq,hj,hjn⟩ => ?_,fun hj => ?_⟩,fun g hr => ?_⟩
   ·unfold clearsK at e2 ⊢
    rw [List.foldl_cons,if_pos hi,e1,e2]
   ·refine (h1.vis.mono fun q j hx => ?_).trans (h2.vis.mono fun q j hx=>⟨hx.1,List.mem_cons_of_mem _ hx.2.1,hx.2.2⟩)
    exact ⟨hx.1,by rw [hx.2]; exact List.mem_cons_self,by rw [hx.2]; exact hi⟩
   ·by_cases hjl:j ∈ l
    ·exact (h2.ents q j).1 ⟨hq,hjl,hjn⟩
    ·have hji:j = i:=by rcases List.mem_cons.1 hj with e | e; exact e; exact absurd e hjl
     rw [(h2.ents q j).2 (fun h'=>hjl h'.2.1)]
     show ent m1 q j = _
     rw [h1.ents,if_pos ⟨hq,hji⟩]
   ·rw [(h2.ents q j).2 (fun h'=>hj ⟨h'.1,List.mem_cons_of_mem _ h'.2.1,h'.2.2⟩)]
    show ent m1 q j = _
    rw [h1.ents,if_neg]
    exact fun h'=>hj ⟨h'.1,by rw [h'.2]; exact List.mem_cons_self,by rw [h'.2]; exact hi⟩
   ·have b1:=h2.fr g hr
    have hr1:(frN m1 g).r ≠ 0:=by
     intro e
     rcases Nat.lt_or_ge g m1.m.fs.length with hg | hg
     ·have c1:=h1.rt.cf g hg
      have c2:=h2.rt.cf g (by rw [h2.len]; exact hg)
      have c3:caN m2 g = caN m1 g:=by unfold caN; rw [h2.ca]
      have c4:¬ 0 < holdN m2 1 g:=fun hh=>by
       obtain ⟨q,j,d1,d2,d3,d4⟩:=(hold_pos (by decide)).1 hh
       have d5:ent m2 q j = ent m1 q j:=by
        by_cases hx:q = p ∧ j ∈ l ∧ inN a n j = true
        ·rw [(h2.ents q j).1 hx] at d3; exact absurd d3 (by decide)
        ·exact (h2.ents q j).2 hx
       rw [d5] at d3 d4
       have:=(hold_pos (m:=m1) (kd:=1) (i:=g) (by decide)).2 ⟨q,j,by have:=ent_in (m:=m1) (p:=q) (n:=j) (by omega); exact this.1,d2,d3,d4⟩
       omega
      omega
     ·have:(frN m2 g).r = 0:=by rw [frN_out (by rw [h2.len]; exact hg)]; rfl
      exact hr this
    have b2:=h1.fr g hr1
    exact ⟨b1.1.trans b2.1,b1.2.1.trans b2.2.1,b1.2.2.1.trans b2.2.2.1,b1.2.2.2.1.trans b2.2.2.2.1,b1.2.2.2.2.trans b2.2.2.2.2⟩
  ·obtain ⟨m2,e2,h2⟩:=clears_ok p a n l k h hc
   refine ⟨m2,?_,h2.rt,h2.co,h2.vis.mono fun q j hx=>⟨hx.1,List.mem_cons_of_mem _ hx.2.1,hx.2.2⟩,h2.st,h2.dk,h2.sw,h2.ca,h2.len,h2.sll,fun q j=>⟨fun ⟨hq,hj,hjn⟩ => ?_,fun hj => ?_⟩,h2.fr⟩
   ·unfold clearsK at e2 ⊢
    rw [List.foldl_cons,if_neg hi,e2]
   ·rcases List.mem_cons.1 hj with e | hj
    ·rw [e] at hjn; exact absurd hjn hi
    ·exact (h2.ents q j).1 ⟨hq,hj,hjn⟩
   ·exact (h2.ents q j).2 fun h'=>hj ⟨h'.1,List.mem_cons_of_mem _ h'.2.1,h'.2.2⟩
theorem clear_ok {k:Kp} (h:Rt k.m) (hc:Co k.m) (p:Nat) (a n:Int):∃ m',clearK k p a n = ⟨m',k.e⟩ ∧ Cleared k.m m' p (fun j=>inN a n j = true):=by
 obtain ⟨m',e,hC⟩:=clears_ok p a n (pagesL (spN k.m p).tb) k h hc
 have hz:∀ q j,q = p → inN a n j = true → ¬ j ∈ pagesL (spN k.m p).tb → ent k.m q j = zEn ∧ ent m' q j = zEn:=fun q j hq hj hjl=>by
  have e1:ent m' q j = ent k.m q j:=(hC.ents q j).2 fun h'=>hjl h'.2.1
  have e2:ent k.m q j = zEn:=by
   subst hq
   have h0:(ent k.m q j).k = 0:=by
    by_cases hb:0 ≤ j ∧ j < 64
    ·by_cases h3:(ent k.m q j).k = 0
     ·exact h3
     ·exact absurd (mem_pages.2 ⟨hb,h3⟩) hjl
    ·rw [ent_out q (by omega)]; rfl
   have:=(Less.zero h hc h0).ents q j
   rw [if_pos ⟨rfl,rfl⟩] at this
   exact this
  exact ⟨e2,e1.trans e2⟩
 refine ⟨m',e,hC.rt,hC.co,hC.vis.mono fun q j hx=>⟨hx.1,hx.2.2⟩,hC.st,hC.dk,hC.sw,hC.ca,hC.len,hC.sll,fun q j=>⟨fun ⟨hq,hj⟩ => ?_,fun hj=>(hC.ents q j).2 fun h'=>hj ⟨h'.1,h'.2.2⟩⟩,hC.fr⟩
 by_cases hjl:j ∈ pagesL (spN k.m p).tb
 ·exact (hC.ents q j).1 ⟨hq,hjl,hj⟩
 ·exact (hz q j hq hj hjl).2
structure Gone (m m' : Ma) (p:Nat):Prop where
 rt:Rt m'
 co:Co m'
 st:m'.st = m.st
 dk:m'.dk = m.dk
 sw:m'.sw = m.sw
 ca:m'.ca = m.ca
 len:m'.m.fs.length = m.m.fs.length
 sll:m'.sl.length = m.sl.length
 spl:m'.sp.length = m.sp.length
 sp:∀ a,a = p → spN m' a = zSp
 spo:∀ a,a ≠ p → (spN m' a).lv = (spN m a).lv ∧ (spN m' a).ar = (spN m a).ar ∧ ∀ n,ent m' a n = ent m a n
 see:∀ a n,a ≠ p → seeN m' a n = seeN m a n
 con:∀ f i,inF m.st f i → contentP m' f i = contentP m f i
 fr:∀ g,(frN m' g).r ≠ 0 → (frN m' g).p = (frN m g).p ∧ (frN m' g).u = (frN m g).u ∧ (frN m' g).d = (frN m g).d ∧ (frN m' g).f = (frN m g).f ∧ (frN m' g).i = (frN m g).i
theorem exit_ok {m:Ma} (h:Rt m) (hc:Co m) {p:Nat} (hp:p < m.sp.length):∃ m',exitK m p = ⟨m',0⟩ ∧ Gone m m' p:=by
 obtain ⟨m1,e1,h1⟩:=clear_ok (k:=⟨m,0⟩) h hc p 0 64
 have hall:∀ n,ent m1 p n = zEn:=fun n=>by
  by_cases hb:0 ≤ n ∧ n < 64
  ·exact (h1.ents p n).1 ⟨rfl,by unfold inN; simp; omega⟩
  ·exact ent_out p (by omega)
 have hp1:p < m1.sp.length:=by rw [h1.vis.sk.len]; exact hp
 obtain ⟨a1,a2⟩:=set_space h1.rt h1.co (q:=p) (s:=zSp) hp1 (fun n=>by rw [hall]; rfl) (by decide) (fun _=>rfl) rfl
 have hsp:=fun a=>spN_setSp (m:=m1) (q:=p) (s:=zSp) hp1 a
 refine ⟨setSp m1 p zSp,by unfold exitK; rw [e1],a1,a2,h1.st,h1.dk,h1.sw,h1.ca,h1.len,h1.sll,?_,fun a ha=>by rw [hsp,if_pos ha],fun a ha => ?_,fun a n ha => ?_,fun f i hi => ?_,h1.fr⟩
 ·unfold setSp; rw [List.length_set]; exact h1.vis.sk.len
 ·rw [hsp,if_neg ha]
  refine ⟨h1.vis.sk.lv a,h1.vis.sk.ar a,fun n => ?_⟩
  unfold ent
  rw [hsp,if_neg ha]
  exact (h1.ents a n).2 fun h'=>ha h'.1
 ·have h2:seeN (setSp m1 p zSp) a n = seeN m1 a n:=see_alike rfl rfl rfl rfl (fun _=>⟨rfl,rfl⟩) (by rw [hsp,if_neg ha]) (by unfold ent; rw [hsp,if_neg ha]; exact ⟨rfl,rfl⟩)
  rw [h2]
  exact h1.vis.see a n fun h'=>ha h'.1
 ·have h2:contentP (setSp m1 p zSp) f i = contentP m1 f i:=rfl
  rw [h2]
  exact h1.vis.con f i hi
theorem put_size' : (Try.prog.info? 93).map (·.size) = some 9:=by kernel_rfl
def outF (f:Int → Bool) (q:Int × Page):Bool:=!(f q.1)
theorem trim1m_any (q:Int × Page) (g gm n:Nat) (f:Int → Bool) (w:World) (hg:Blk w g #[.map (some gm)] 178) (hM:MapO w gm n f) (hq : -9223372036854775808 ≤ q.1 ∧ q.1 ≤ 9223372036854775807) :
  Calls Try.prog 113 #[.agg (puC q),.pointer (some ⟨g,0,none⟩)] w fun r w'=>r = .returned (.bool (outF f q)) ∧ Below w.heap.size w w':=by
 go_enter Try.func113,Try.ntmps113
 go_upto_region 1 with (fail)
 refine abs1 (fun W=>Code.wp _ _ _ _ W) fun W0 hb0 hx0 hs0 => ?_
 clear hs0
 have hgx:=(hg.ext hb0).cell 0
 have hcx:=hx0.cell
 have hlk:=(hM.below hb0).look q.1 hq
 have q0:(puC q)[0]? = some (.int .i64 q.1):=rfl
 go_wp2
 go_ret
 exact ⟨rfl,hb0⟩
theorem put_elem {w:World} {a:Option Addr} {l:List (Int × Page)} (h:RdV w a (l.flatMap puL)) (k:Nat) (hk:k < l.length):∃ b off,a = some ⟨b,off,none⟩ ∧ RdV w (some ⟨b,off + k * 9,none⟩) (puL l[k]):=elemR puL_len (by decide) h k hk
theorem idxout_any (l:List (Int × Page)) (a:Option Addr) (c:Nat) (w:World) (hrd:RdV w a (l.flatMap puL)) (hl:l.length ≤ 9223372036854775807) (g gm n:Nat) (f:Int → Bool) (hg:Blk w g #[.map (some gm)] 178) (hM:MapO w gm n f) (hq:∀ q ∈ l,-9223372036854775808 ≤ q.1 ∧ q.1 ≤ 9223372036854775807) :
  Calls Try.prog 123 #[.slice a l.length c,.func (.func 113) #[] #[.pointer (some ⟨g,0,none⟩)]] w fun e w'=>e = .returned (.int .i64 (idx (outF f) l)) ∧ Below w.heap.size w w':=by
 go_enter Try.func123,Try.ntmps123
 go_wp2
 go_loopw [8] (fun i wr => ∃ k:Nat,k ≤ l.length ∧ i = .int .i64 k ∧ Below w.heap.size w wr ∧ ∀ i (h:i < l.length),i < k → (outF f) l[i] = false) (fun i _=>l.length - (intOf i).toNat)
 case atStart=>exact ⟨0,Nat.zero_le _,rfl,Below.refl _ _,fun i _ h=>absurd h (Nat.not_lt_zero _)⟩
 case round=>
  obtain ⟨k,hk,rfl,hbr,hp0⟩:=hrel
  have hp:=Lib.hid hp0
  clear hp0
  by_cases hlt:k < l.length
  ·obtain ⟨b,off,rfl,hel⟩:=put_elem (hrd.below hbr) k hlt
   go_wp2_with (refine wpList_ldg _ _ rfl b (off + k * 9) rfl rfl _ hel _ Try.underlying93 rfl put_size' ?_)
   refine (trim1m_any l[k] g gm n f _ (hg.ext hbr) (hM.below hbr) (hq _ (List.getElem_mem hlt))).mono ?_
   rintro e w2 ⟨rfl,hb2⟩
   have hbel2:=below_next hbr hb2
   clear hb2
   cases hpk:(outF f) l[k]
   ·have hpk':=Lib.hid hpk
    clear hpk
    go_wp2
    go_roundw
    case rel=>exact ⟨k + 1,by omega,by go_num,hbel2,upto' hp.out hlt hpk'.out⟩
    case measure=>simp [intOf]; omega
   ·have hfin:=Lib.hid (idx_at (outF f) l k hlt hp.out hpk)
    clear hpk
    go_wp2
    go_ret
    exact ⟨ret_int hfin.out.symm,hbel2⟩
  ·have hfin:=Lib.hid (idx_none (outF f) l fun i h=>hp.out i h (by omega))
   go_wp2
   go_ret
   exact ⟨ret_int hfin.out.symm,hbr⟩
theorem conout_any (l:List (Int × Page)) (a:Option Addr) (c:Nat) (w:World) (hrd:RdV w a (l.flatMap puL)) (hl:l.length ≤ 9223372036854775807) (g gm n:Nat) (f:Int → Bool) (hg:Blk w g #[.map (some gm)] 178) (hM:MapO w gm n f) (hq:∀ q ∈ l,-9223372036854775808 ≤ q.1 ∧ q.1 ≤ 9223372036854775807) :
  Calls Try.prog 112 #[.slice a l.length c,.func (.func 113) #[] #[.pointer (some ⟨g,0,none⟩)]] w fun e w'=>e = .returned (.bool (l.any (outF f))) ∧ Below w.heap.size w w':=by
 go_enter Try.func112,Try.ntmps112
 go_wp2_with fail
 refine (idxout_any l a c _ hrd hl g gm n f hg hM hq).mono ?_
 rintro e w2 ⟨rfl,hb2⟩
 go_wp2
 go_ret
 exact ⟨ret_bool (idx_any _ _),hb2⟩
theorem trim_bad {m:Ma} {k:Nat} (hk:k < m.dk.blocks.length) (h:(decide ((k:Int) ∈ blks m.st) || decide (m.dk.blocks.getD k zPg = zPg)) = false):trimB m = false:=by
 unfold trimB
 rw [Bool.and_eq_false_iff]
 refine .inl (List.all_eq_false.2 ⟨k,List.mem_range.2 hk,?_⟩)
 rw [h]; decide
theorem trim_end {m:Ma} (h:∀ j:Nat,j < m.dk.blocks.length → (decide ((j:Int) ∈ blks m.st) || decide (m.dk.blocks.getD j zPg = zPg)) = true):trimB m = !(m.dk.queue.any (outF (memF (blks m.st)))):=by
 unfold trimB
 rw [List.all_eq_true.2 (fun j hj=>h j (List.mem_range.1 hj)),Bool.true_and,List.any_eq_not_all_not,Bool.not_not]
 congr 1
 funext q
 simp [outF,memF]
theorem trimmed_any (H:MH) (b:Nat) (w:World) (hb:Blk w b (mhC H) 40) (h:MaR w H) (h0:wrongSt (stOf H.fi H.ct) = 0) (hd:wrongD H.dk = 0) :
  Calls Try.prog 81 #[.pointer (some ⟨b,0,none⟩)] w fun r w'=>r = .returned (.bool (trimB H.ma)) ∧ Below w.heap.size w w':=by
 have hmm:=@run_makeMap Try.prog
 have hf5:H.fi.length ≤ 5:=by simpa [stOf] using (wrongSt_few h0).1
 have hfl:Hid (∀ p ∈ H.fi,p.l.length ≤ 12 ∧ ∀ x ∈ p.l,-1 ≤ x ∧ x < 80):=Lib.hid (fun p hp=>by
  obtain ⟨h1,h2,h3,h4⟩:=wrongSt_file h0 p.fi (List.mem_map.2 ⟨p,hp,rfl⟩)
  have h5:=countS_le (n:=p.fi.n) h2
  have h6:=(wrongSt_few h0).2.2
  refine ⟨by have h7:(p.l.length:Int) = countS p.fi.n:=h3; omega,fun x hx=>⟨(h4 x hx).1,by have:=(h4 x hx).2; omega⟩⟩)
 obtain ⟨hd80,hq400⟩:=wrongD_le hd
 have hqb:Hid (∀ q ∈ H.dk.queue,-9223372036854775808 ≤ q.1 ∧ q.1 ≤ 9223372036854775807):=Lib.hid (fun q hq=>by
  obtain ⟨i,hi,rfl⟩:=List.mem_iff_getElem.1 hq
  have:=wrongD_in hd i hi
  omega)
 have H0:=Lib.hid h0
 have HD:=Lib.hid hd
 clear h0 hd
 have hbk:=Lib.hid (blks_of H.fi H.ct)
 go_enter Try.func81,Try.ntmps81
 go_upto_region 2 with (fail)
 refine abs1 (fun W=>Code.wp _ _ _ _ W) fun w2 hb2 hx2 hs2 => ?_
 have hbel2:Below w.heap.size w w2:=below_next ((Below.refl _ _).alloc (Nat.le_refl _) _) hb2
 have hM2:MapO w2 w.heap.size 0 (memF (((H.fi.take 0).map PF.fi).flatMap Fi.b)):=(MapO.made w).below hb2
 have hx2' : Blk w2 (w.heap.size + 1) #[.map (some w.heap.size)] 178:=by
  have e:(w.alloc (Obj.map #[] 0)).heap.size = w.heap.size + 1:=Array.size_push _
  rw [e] at hx2; exact hx2
 obtain ⟨gm,hGM⟩:∃ g,g = w.heap.size:=⟨_,rfl⟩
 have hge:Hid (w.heap.size ≤ gm):=Lib.hid (by omega)
 rw [← hGM] at hM2 hx2' ⊢
 rw [← hGM] at hge
 have hgs:w.heap.size ≤ gm:=by omega
 clear hb2 hx2 hs2 hmm hGM hge
 have hbk2:=hb.ext hbel2
 have hcb:=hbk2.cell
 unfold mhC at hcb
 have H5:(H.fi.length:Int) ≤ 5:=by omega
 go_upto_region 3 with (fail)
 clear hcb hbk2
 go_loopw [17] (fun i wr => ∃ (q n:Nat),q ≤ H.fi.length ∧ i = .int .i64 q ∧ n ≤ 12 * q ∧ Below w.heap.size w wr ∧ Blk wr (gm + 1) #[.map (some gm)] 178 ∧ MapO wr gm n (memF (((H.fi.take q).map PF.fi).flatMap Fi.b))) (fun i _=>H.fi.length - (intOf i).toNat)
 case atStart=>exact ⟨0,0,Nat.zero_le _,rfl,Nat.le_refl _,hbel2,hx2',hM2⟩
 case round=>
  clear hbel2 hx2' hM2
  obtain ⟨q,n,hq,rfl,hn,hbr,hx,hM⟩:=hrel
  by_cases hlt:q < H.fi.length
  ·obtain ⟨bf,of,hai,hrd⟩:=elemR pfL_len (by decide) (h.below hbr).st.rd q hlt
   obtain ⟨p,hp⟩:∃ p,H.fi[q]? = some p:=⟨_,List.getElem?_eq_getElem hlt⟩
   rw [show H.fi[q] = p from (List.getElem?_eq_some_iff.1 hp).2] at hrd
   have hgood:=(h.below hbr).st.good p (List.mem_of_getElem? hp)
   obtain ⟨hp12,hpx⟩:=hfl.out p (List.mem_of_getElem? hp)
   have htk:=Lib.hid (take_at hp)
   have hqi:(q:Int) < (H.fi.length:Int):=by omega
   generalize hseen:((H.fi.take q).map PF.fi).flatMap Fi.b = seen at hM
   have hseen':=Lib.hid hseen
   have hpx':=Lib.hid hpx
   clear hseen hp hpx
   rw [hai]
   go_wp2_with (first | (refine wpList_ldg _ _ rfl bf (of + q * 2) rfl rfl _ hrd _ Try.underlying71 rfl file_size ?_) | (refine wpList_stn rfl _ _ _ rfl (pfC p) rfl rfl rfl file_size (pfC_one p) ?_))
   intro w3 hb3 fx3
   have hb13:=below_next hbr hb3
   have hx3:=hx.ext hb3
   have hM3:=hM.below hb3
   have hg3:=hgood.below hb3
   have hwr:=Lib.hid hbr.size
   have hxl:=Lib.hid hx.lt
   clear hbr hx hM hb3 hrd hgood
   have hcf:=fx3.cell
   unfold pfC at hcf
   have hM0:MapO w3 gm n (memF (seen ++ p.l.take 0)):=by simpa using hM3
   have hle:=hg3.le
   have hmx:=hg3.mx
   have hrp:=hg3.rd
   unfold maxLen at hmx
   clear hM3 hg3
   go_upto_region 6 with (fail)
   clear hcf fx3
   go_loopw [24] (fun i wr => ∃ (j m:Nat),j ≤ p.l.length ∧ i = .int .i64 j ∧ m ≤ n + j ∧ Below w.heap.size w wr ∧ Blk wr (gm + 1) #[.map (some gm)] 178 ∧ MapO wr gm m (memF (seen ++ p.l.take j)) ∧ RdV wr p.a (p.l.map inV)) (fun i _=>p.l.length - (intOf i).toNat)
   case atStart=>exact ⟨0,n,Nat.zero_le _,rfl,Nat.le_refl _,hb13,hx3,hM0,hrp⟩
   case round=>
    clear hb13 hx3 hM0 hrp
    obtain ⟨j,m,hj,rfl,hm,hbr,hx,hM,hrp⟩:=hrel
    by_cases hjl:j < p.l.length
    ·obtain ⟨x,hX⟩:∃ x,p.l[j]? = some x:=⟨p.l[j],List.getElem?_eq_getElem hjl⟩
     obtain ⟨b2,off2,hpa,hc⟩:=elem_at hrp j hjl
     rw [show p.l[j] = x from (List.getElem?_eq_some_iff.1 hX).2] at hc
     have htk2:=Lib.hid (take_at hX)
     have hxb:=hpx'.out x (List.mem_of_getElem? hX)
     have hrp':=Lib.hid hrp
     have hpa':=Lib.hid hpa
     have hjl' : (j:Int) < (p.l.length:Int):=by omega
     have hcx:=hx.cell
     rw [hpa]
     clear hX hrp hpa
     generalize hs2:seen ++ p.l.take j = seen2 at hM
     have hs2' : Hid (seen ++ p.l.take (j + 1) = seen2 ++ [x]):=Lib.hid (by rw [htk2.out,← List.append_assoc,hs2])
     clear hs2
     go_wp2_with (refine wpList_mark hM (by omega) rfl _ _ _ rfl rfl x rfl rfl (by omega) ?_)
     intro w6 hM6 hgr6
     rw [memF_put,← hs2'.out] at hM6
     have hb6:=hbr.grown hgr6 hbr.size (fun k hk=>by cases hk; omega)
     have hx6:=hx.grown hgr6 (fun e=>by have:=Option.some.inj e; omega)
     have hrp6:=hM.rdv hrp'.out hgr6
     clear hbr hx hM hgr6 hcx hc hrp'
     go_wp2
     go_roundw
     case rel=>exact ⟨j + 1,m + 1,by omega,by go_num,by omega,hb6,hx6,hM6,by rw [← hpa'.out]; exact hrp6⟩
     case measure=>simp [intOf]; omega
    ·have hjl' : ¬ (j:Int) < (p.l.length:Int):=by omega
     rw [List.take_of_length_le (by omega)] at hM
     have hM' : MapO wr gm m (memF (((H.fi.take (q + 1)).map PF.fi).flatMap Fi.b)):=by
      rw [htk.out,List.map_append,List.flatMap_append,hseen'.out]
      simpa [PF.fi] using hM
     clear hM hrp
     go_wp2
     go_roundw
     case rel=>exact ⟨q + 1,m,by omega,by go_num,by omega,hbr,hx,hM'⟩
     case measure=>simp [intOf]; omega
  ·have hqi:¬ (q:Int) < (H.fi.length:Int):=by omega
   rw [List.take_of_length_le (by omega)] at hM
   have hM' : MapO wr gm n (memF (blks H.ma.st)):=hM
   clear hM
   have hbk:=hb.ext hbr
   have hcb:=hbk.cell
   unfold mhC at hcb
   go_upto_region 12 with (fail)
   clear hcb hbk
   go_loopw [38] (fun i wr => ∃ (k:Nat),k ≤ H.dk.blocks.length ∧ i = .int .i64 k ∧ Below w.heap.size w wr ∧ Blk wr (gm + 1) #[.map (some gm)] 178 ∧ MapO wr gm n (memF (blks H.ma.st)) ∧ Hid (∀ j:Nat,j < k → (decide ((j:Int) ∈ blks H.ma.st) || decide (H.dk.blocks.getD j zPg = zPg)) = true)) (fun i _=>H.dk.blocks.length - (intOf i).toNat)
   case atStart=>exact ⟨0,Nat.zero_le _,rfl,hbr,hx,hM',Lib.hid fun j hj=>absurd hj (Nat.not_lt_zero _)⟩
   case round=>
    clear hbr hx hM'
    obtain ⟨k,hk,rfl,hbr,hx,hM,hall⟩:=hrel
    by_cases hkl:k < H.dk.blocks.length
    ·obtain ⟨bd,od,hda,hrd⟩:=elemR pgL_len (by decide) (h.below hbr).dk.rb k hkl
     have hki:(k:Int) < (H.dk.blocks.length:Int):=by omega
     have hgd:Hid (H.dk.blocks.getD k zPg = H.dk.blocks[k]):=Lib.hid (by rw [List.getD_eq_getElem?_getD,List.getElem?_eq_getElem hkl]; rfl)
     generalize hP:H.dk.blocks[k] = P at hrd hgd
     clear hP
     rw [hda]
     go_wp2_with (first | (refine wpList_ldg _ _ rfl bd (od + k * 8) rfl rfl _ hrd _ Try.underlying50 rfl psize ?_) | (refine wpList_stn rfl _ _ _ rfl (pgC P) rfl rfl rfl psize (pgC_one _) ?_))
     intro w3 hb3 px3
     have hb13:=below_next hbr hb3
     have hx3:=hx.ext hb3
     have hM3:=hM.below hb3
     clear hbr hx hM hb3 hrd
     have hcx:=hx3.cell
     have hlook:=hM3.look k (by omega)
     have hcp:=px3.cell
     rw [pgC_lit] at hcp
     cases hu:memF (blks H.ma.st) (k:Int) with
     | true=>
      rw [hu] at hlook
      have hall2:Hid (∀ j:Nat,j < k + 1 → (decide ((j:Int) ∈ blks H.ma.st) || decide (H.dk.blocks.getD j zPg = zPg)) = true):=Lib.hid fun j hj=>by
       by_cases e:j = k
       ·subst e
        rw [show decide ((j:Int) ∈ blks H.ma.st) = true from hu]; rfl
       ·exact hall.out j (by omega)
      clear hu hall
      go_wp2
      go_roundw
      case rel=>exact ⟨k + 1,by omega,by go_num,hb13,hx3,hM3,hall2⟩
      case measure=>simp [intOf]; omega
     | false=>
      rw [hu] at hlook
      have hE:∀ W,(Op.equalIn 10000 50 (.agg #[.int .u8 P[0].toNat,.int .u8 P[1].toNat,.int .u8 P[2].toNat,.int .u8 P[3].toNat,.int .u8 P[4].toNat,.int .u8 P[5].toNat,.int .u8 P[6].toNat,.int .u8 P[7].toNat]) (.agg #[.int .u8 0,.int .u8 0,.int .u8 0,.int .u8 0,.int .u8 0,.int .u8 0,.int .u8 0,.int .u8 0])).run Try.prog W = .ok (P == zPg) W:=fun W=>eqP P zPg W
      by_cases hp0:P = zPg
      ·have hall2:Hid (∀ j:Nat,j < k + 1 → (decide ((j:Int) ∈ blks H.ma.st) || decide (H.dk.blocks.getD j zPg = zPg)) = true):=Lib.hid fun j hj=>by
        by_cases e:j = k
        ·subst e
         rw [hgd.out,decide_eq_true hp0,Bool.or_true]
        ·exact hall.out j (by omega)
       have hpb:(P == zPg) = true:=by rw [hp0]; exact beq_self_eq_true _
       rw [hpb] at hE
       clear hu hall hpb hp0 hgd
       go_wp2
       go_roundw
       case rel=>exact ⟨k + 1,by omega,by go_num,hb13,hx3,hM3,hall2⟩
       case measure=>simp [intOf]; omega
      ·have hpb:(P == zPg) = false:=by rw [beq_eq_false_iff_ne]; exact hp0
       have hq:Hid (trimB H.ma = false):=Lib.hid (trim_bad (k:=k) hkl (by
        show (decide ((k:Int) ∈ blks H.ma.st) || decide (H.dk.blocks.getD k zPg = zPg)) = false
        rw [hgd.out,decide_eq_false hp0,show decide ((k:Int) ∈ blks H.ma.st) = false from hu]; rfl))
       rw [hpb] at hE
       clear hu hall hpb hp0 hgd
       go_wp2
       go_ret
       rw [hq.out]
       exact ⟨rfl,hb13⟩
    ·have hki:¬ (k:Int) < (H.dk.blocks.length:Int):=by omega
     have hq:Hid (trimB H.ma = !(H.dk.queue.any (outF (memF (blks H.ma.st))))):=Lib.hid (trim_end fun j hj=>hall.out j (by have:j < H.dk.blocks.length:=hj; omega))
     have hbk:=hb.ext hbr
     have hcb:=hbk.cell
     unfold mhC at hcb
     have hd:=(h.below hbr).dk
     clear hall
     go_wp2_with fail
     refine (conout_any H.dk.queue H.dq H.cdq _ hd.rq (by omega) (gm + 1) gm n (memF (blks H.ma.st)) hx hM hqb.out).mono ?_
     rintro r w4 ⟨rfl,hb4⟩
     go_wp2
     go_ret
     rw [hq.out]
     exact ⟨rfl,below_next hbr hb4⟩
def errL (m:Ma):List Int:=[wrongM m.m,wrongS m.sl,wrongD m.sw,wrongD m.dk,wrongSt m.st]
theorem parts_err {m:Ma} {k:Nat} (hk:k < 5) (h:∀ j,j < k → (errL m).getD j 0 = 0) (hne:(errL m).getD k 0 ≠ 0):partsE m = (errL m).getD k 0:=by
 unfold partsE
 have e0:0 < k → wrongM m.m = 0:=fun h'=>h 0 h'
 have e1:1 < k → wrongS m.sl = 0:=fun h'=>h 1 h'
 have e2:2 < k → wrongD m.sw = 0:=fun h'=>h 2 h'
 have e3:3 < k → wrongD m.dk = 0:=fun h'=>h 3 h'
 match k,hk with
 | 0,_=>rw [if_pos (show wrongM m.m ≠ 0 from hne)]; rfl
 | 1,_=>rw [if_neg (by rw [e0 (by omega)]; simp),if_pos (show wrongS m.sl ≠ 0 from hne)]; rfl
 | 2,_=>rw [if_neg (by rw [e0 (by omega)]; simp),if_neg (by rw [e1 (by omega)]; simp),if_pos (show wrongD m.sw ≠ 0 from hne)]; rfl
 | 3,_=>rw [if_neg (by rw [e0 (by omega)]; simp),if_neg (by rw [e1 (by omega)]; simp),if_neg (by rw [e2 (by omega)]; simp),if_pos (show wrongD m.dk ≠ 0 from hne)]; rfl
 | 4,_=>rw [if_neg (by rw [e0 (by omega)]; simp),if_neg (by rw [e1 (by omega)]; simp),if_neg (by rw [e2 (by omega)]; simp),if_neg (by rw [e3 (by omega)]; simp),if_pos (show wrongSt m.st ≠ 0 from hne)]; rfl
 | n + 5,h'=>omega
def errR (B:Nat) (H:MH):Rel:=⟨fun v w => ∃ g,v = .slice (some ⟨g,0,none⟩) 5 5 ∧ Blk w g #[.int .i64 (wrongM H.m),.int .i64 (wrongS H.sl),.int .i64 (wrongD H.sw),.int .i64 (wrongD H.dk),.int .i64 (wrongSt (stOf H.fi H.ct))] 43,fun _ _ _ hb ⟨g,h1,h2⟩=>⟨g,h1,h2.ext hb⟩⟩
theorem parts_any (H:MH) (b:Nat) (w:World) (hbk:Blk w b (mhC H) 40) (h:MaR w H) :
  Calls Try.prog 35 #[.pointer (some ⟨b,0,none⟩)] w fun r w'=>r = .returned (.int .i64 (partsE H.ma)) ∧ Below w.heap.size w w':=by
 go_enter Try.func35,Try.ntmps35
 go_upto_region 1 with (fail)
 refine wp_growP 28 [_,_,_,_,.v (.int .i64 (wrongM H.m)),_,_,_,_,.v (.int .i64 (wrongS H.sl)),_,_,_,_,.v (.int .i64 (wrongD H.sw)),_,_,_,_,.v (.int .i64 (wrongD H.dk)),_,_,_,_,.v (.int .i64 (wrongSt (stOf H.fi H.ct))),.r 25 ((errR w.heap.size H)),.v (.int .i64 5),_] (Gk rfl (Gk rfl (Gf b 0 rfl rfl (Gr (.agg #[.slice H.af H.m.fs.length H.cf,.int .i64 H.m.hand]) (fun ρ y W hb hk=>(run_load_rd rfl (kx_at rfl hk) (blk_part (hbk.ext hb) 0 2) Try.underlying27 rfl (by kernel_rfl))) rfl rfl (all_cons ?_ (Gk rfl (Gk rfl (Gf b 2 rfl rfl (Gl hbk rfl rfl rfl rfl rfl (all_cons ?_ (Gk rfl (Gk rfl (Gf b 3 rfl rfl (Gr (.agg #[.slice H.wb H.sw.blocks.length H.cwb,.slice H.wq H.sw.queue.length H.cwq]) (fun ρ y W hb hk=>(run_load_rd rfl (kx_at rfl hk) (blk_part (hbk.ext hb) 3 2) Try.underlying33 rfl (by kernel_rfl))) rfl rfl (all_cons ?_ (Gk rfl (Gk rfl (Gf b 5 rfl rfl (Gr (.agg #[.slice H.db H.dk.blocks.length H.cdb,.slice H.dq H.dk.queue.length H.cdq]) (fun ρ y W hb hk=>(run_load_rd rfl (kx_at rfl hk) (blk_part (hbk.ext hb) 5 2) Try.underlying33 rfl (by kernel_rfl))) rfl rfl (all_cons ?_ (Gk rfl (Gk rfl (Gf b 7 rfl rfl (Gr (.agg #[.slice H.ai H.fi.length H.ci,.int .i64 H.ct]) (fun ρ y W hb hk=>(run_load_rd rfl (kx_at rfl hk) (blk_part (hbk.ext hb) 7 2) Try.underlying36 rfl (by kernel_rfl))) rfl rfl (all_cons ?_ (all_cons ?_ (all_cons ?_ (Gr (.int .i64 0) (fun ρ y W hb hk=>(run_move (.inl rfl) (kx_at rfl hk))) rfl rfl (all_nil))))))))))))))))))))))))))))) (fun _=>rfl) rfl ?_
 ·intro ρ y W hw hn hb hd; have E12:=hw 12 3 rfl; have h3:y 3 = _:=hd 3 rfl
  have EF:∀ f,ρ (.func f) = .func (.func f) #[] #[]:=fun f=>hn (.func f) trivial
  refine asked_call _ _ (want_free rfl) (run_call rfl (EF _) Try.func77 (by kernel_rfl) (by kernel_rfl) (by simp only [List.map_toArray,List.map_cons,List.map_nil,E12,h3,EF]; rfl)) ?_
  refine (mwrong_any H.m _ _ W (h.below hb).fr).mono ?_
  rintro r w1 ⟨rfl,hb1⟩
  exact ⟨_,rfl,hb1,rfl⟩
 ·intro ρ y W hw hn hb hd; have E17:=hw 17 8 rfl; have h8:y 8 = _:=hd 8 rfl
  have EF:∀ f,ρ (.func f) = .func (.func f) #[] #[]:=fun f=>hn (.func f) trivial
  refine asked_call _ _ (want_free rfl) (run_call rfl (EF _) Try.func78 (by kernel_rfl) (by kernel_rfl) (by simp only [List.map_toArray,List.map_cons,List.map_nil,E17,h8,EF]; rfl)) ?_
  refine (slwrong_any H.sl _ _ W (h.below hb).sl.rd (by have:=h.sl.le; have:=h.sl.mx; unfold maxLen at this; omega)).mono ?_
  rintro r w1 ⟨rfl,rfl⟩
  exact ⟨_,rfl,Below.refl _ _,rfl⟩
 ·intro ρ y W hw hn hb hd; have E22:=hw 22 13 rfl; have h13:y 13 = _:=hd 13 rfl
  have EF:∀ f,ρ (.func f) = .func (.func f) #[] #[]:=fun f=>hn (.func f) trivial
  refine asked_call _ _ (want_free rfl) (run_call rfl (EF _) Try.func79 (by kernel_rfl) (by kernel_rfl) (by simp only [List.map_toArray,List.map_cons,List.map_nil,E22,h13,EF]; rfl)) ?_
  refine (dwrong_any H.sw _ _ _ _ W (h.below hb).sw).mono ?_
  rintro r w1 ⟨rfl,hb1⟩
  exact ⟨_,rfl,hb1,rfl⟩
 ·intro ρ y W hw hn hb hd; have E27:=hw 27 18 rfl; have h18:y 18 = _:=hd 18 rfl
  have EF:∀ f,ρ (.func f) = .func (.func f) #[] #[]:=fun f=>hn (.func f) trivial
  refine asked_call _ _ (want_free rfl) (run_call rfl (EF _) Try.func79 (by kernel_rfl) (by kernel_rfl) (by simp only [List.map_toArray,List.map_cons,List.map_nil,E27,h18,EF]; rfl)) ?_
  refine (dwrong_any H.dk _ _ _ _ W (h.below hb).dk).mono ?_
  rintro r w1 ⟨rfl,hb1⟩
  exact ⟨_,rfl,hb1,rfl⟩
 ·intro ρ y W hw hn hb hd; have E32:=hw 32 23 rfl; have h23:y 23 = _:=hd 23 rfl
  have EF:∀ f,ρ (.func f) = .func (.func f) #[] #[]:=fun f=>hn (.func f) trivial
  refine asked_call _ _ (want_free rfl) (run_call rfl (EF _) Try.func80 (by kernel_rfl) (by kernel_rfl) (by simp only [List.map_toArray,List.map_cons,List.map_nil,E32,h23,EF]; rfl)) ?_
  refine (swrong_any H.fi H.ct _ _ W (h.below hb).st h.c64).mono ?_
  rintro r w1 ⟨rfl,hb1⟩
  exact ⟨_,rfl,hb1,rfl⟩
 ·intro ρ y W hw hn hb hd; have E13:=hw 13 4 rfl; have h4:y 4 = _:=hd 4 rfl; have E18:=hw 18 9 rfl; have h9:y 9 = _:=hd 9 rfl; have E23:=hw 23 14 rfl; have h14:y 14 = _:=hd 14 rfl; have E28:=hw 28 19 rfl
  have h19:y 19 = _:=hd 19 rfl
  have E33:=hw 33 24 rfl
  have h24:y 24 = _:=hd 24 rfl
  refine asked_new (.slice (some ⟨W.heap.size,0,none⟩) 5 5) (want_free rfl) (by simp [execOp,go_sem,E13.trans h4,E18.trans h9,E23.trans h14,E28.trans h19,E33.trans h24]) ((Below.refl _ _).alloc (Nat.le_refl _) (.cells #[.int .i64 (wrongM H.m),.int .i64 (wrongS H.sl),.int .i64 (wrongD H.sw),.int .i64 (wrongD H.dk),.int .i64 (wrongSt (stOf H.fi H.ct))] 43)) ?_
  exact ⟨_,rfl,Blk.new _ _ _⟩
 ·intro ρ y W hw hn hb hd; have E34:=hw 34 25 rfl; have h25:=hd 25 rfl
  obtain ⟨ge,hge,_⟩:=h25
  refine asked_val (.int .i64 5) (want_free rfl) (by simp [execOp,go_sem,E34,hge]) rfl
 intro y W1 hbW1 hRW1
 have hy25:((errR w.heap.size H)).r (y 25) W1:=hRW1 25 (by decide)
 clear hRW1
 obtain ⟨ge,hge,hxe⟩:=hy25
 have hbelW:Below w.heap.size w W1:=hbW1
 rw [hge]
 clear hge hbW1
 go_upto_region 2 with (fail)
 go_loopw [36] (fun i wr => ∃ (k:Nat),k ≤ 5 ∧ i = .int .i64 k ∧ Below w.heap.size w wr ∧ Blk wr ge #[.int .i64 (wrongM H.m),.int .i64 (wrongS H.sl),.int .i64 (wrongD H.sw),.int .i64 (wrongD H.dk),.int .i64 (wrongSt (stOf H.fi H.ct))] 43 ∧ Hid (∀ j,j < k → (errL H.ma).getD j 0 = 0)) (fun i _=>5 - (intOf i).toNat)
 case atStart=>exact ⟨0,Nat.zero_le _,rfl,hbelW,hxe,Lib.hid fun j hj=>absurd hj (Nat.not_lt_zero _)⟩
 case round=>
  clear hbelW hxe
  obtain ⟨k,hk,rfl,hbr,hx,hz⟩:=hrel
  by_cases hkl:k < 5
  ·have hki:(k:Int) < 5:=by omega
   have hck:wr.cell? ⟨ge,k,none⟩ = some (.int .i64 ((errL H.ma).getD k 0)):=by
    rw [hx.cell]
    match k,hkl with
    | 0,_=>rfl
    | 1,_=>rfl
    | 2,_=>rfl
    | 3,_=>rfl
    | 4,_=>rfl
    | n + 5,h'=>omega
   by_cases h0:(errL H.ma).getD k 0 = 0
   ·have hz2:Hid (∀ j,j < k + 1 → (errL H.ma).getD j 0 = 0):=Lib.hid fun j hj=>by
     by_cases e:j = k
     ·rw [e]; exact h0
     ·exact hz.out j (by omega)
    rw [h0] at hck
    clear h0 hz
    go_wp2
    go_roundw
    case rel=>exact ⟨k + 1,by omega,by go_num,hbr,hx,hz2⟩
    case measure=>simp [intOf]; omega
   ·have hq:Hid (partsE H.ma = (errL H.ma).getD k 0):=Lib.hid (parts_err hkl hz.out h0)
    generalize (errL H.ma).getD k 0 = E at *
    clear hz
    go_wp2
    go_ret
    rw [hq.out]
    exact ⟨rfl,hbr⟩
  ·have hki:¬ (k:Int) < 5:=by omega
   have hz0:=hz.out 0 (by omega)
   have hz1:=hz.out 1 (by omega)
   have hz2:=hz.out 2 (by omega)
   have hz3:=hz.out 3 (by omega)
   have hz4:=hz.out 4 (by omega)
   have e0:=Lib.hid (show wrongM H.m = 0 from hz0)
   have e1:=Lib.hid (show wrongS H.sl = 0 from hz1)
   have e2:=Lib.hid (show wrongD H.sw = 0 from hz2)
   have e3:=Lib.hid (show wrongD H.dk = 0 from hz3)
   have e4:=Lib.hid (show wrongSt (stOf H.fi H.ct) = 0 from hz4)
   clear hz0 hz1 hz2 hz3 hz4 hz hx
   have hbkr:=hbk.ext hbr
   have hr:=h.below hbr
   have hP:Hid (partsE H.ma = if H.sw.blocks.length ≠ H.sl.length ∨ (H.dk.blocks.length:Int) ≠ H.ct ∨ trimB H.ma = false then 7 else if 4 < H.sp.length then 4 else firstE (H.ma.sp.map spaceE)):=Lib.hid (by
    unfold partsE
    rw [if_neg (by rw [show wrongM H.ma.m = 0 from e0.out]; simp),if_neg (by rw [show wrongS H.ma.sl = 0 from e1.out]; simp),if_neg (by rw [show wrongD H.ma.sw = 0 from e2.out]; simp),if_neg (by rw [show wrongD H.ma.dk = 0 from e3.out]; simp),if_neg (by rw [show wrongSt H.ma.st = 0 from e4.out]; simp),spH]
    rfl)
   go_upto_region 7 with (fail)
   have hcb:=hbkr.cell
   unfold mhC at hcb
   by_cases c1:H.sw.blocks.length = H.sl.length
   ·by_cases c2:(H.dk.blocks.length:Int) = H.ct
    ·have c1i:(H.sw.blocks.length:Int) = (H.sl.length:Int):=by omega
     have hp2:Hid (partsE H.ma = if trimB H.ma = false then 7 else if 4 < H.sp.length then 4 else firstE (H.ma.sp.map spaceE)):=Lib.hid (by
      rw [hP.out]
      by_cases ct:trimB H.ma = false
      ·rw [if_pos (.inr (.inr ct)),if_pos ct]
      ·rw [if_neg (by rintro (h | h | h); exact h c1; exact h c2; exact ct h),if_neg ct])
     refine wp_growP 31 [_,_,_,_,_,_,_,_,_,_,_,_,_,_,_,_,_,_,_,_,_,_,_,_,_,_,_,_,.v (.bool (trimB H.ma)),_,.v (.bool (!trimB H.ma))] (Gk rfl (Gk rfl (Gf b 3 rfl rfl (Gf b 3 rfl rfl (Gl hbkr rfl rfl rfl rfl rfl (Gn rfl rfl rfl rfl (Gk rfl (Gk rfl (Gf b 2 rfl rfl (Gl hbkr rfl rfl rfl rfl rfl (Gn rfl rfl rfl rfl (Gb (.bool false) (by simp [go_sem,c1]) rfl rfl rfl rfl rfl (Gk rfl (Gk rfl (Gk rfl (Gf b 5 rfl rfl (Gf b 5 rfl rfl (Gl hbkr rfl rfl rfl rfl rfl (Gn rfl rfl rfl rfl (Gk rfl (Gk rfl (Gf b 7 rfl rfl (Gf b 8 rfl rfl (Gl hbkr rfl rfl rfl rfl rfl (Gb (.bool false) (by simp [go_sem,c2]) rfl rfl rfl rfl rfl (Gk rfl (Gk rfl (Gk rfl (all_cons ?_ (Gr (.bool (!trimB H.ma)) (fun ρ y W hb hk=>run_not rfl (kx_at rfl hk)) rfl rfl (Gk rfl (all_nil)))))))))))))))))))))))))))))))) (fun _=>rfl) rfl ?_
     ·intro ρ y W hw hn hb hd; have E71:=hw 71 27 rfl; have h27:y 27 = _:=hd 27 rfl
      have EF:∀ f,ρ (.func f) = .func (.func f) #[] #[]:=fun f=>hn (.func f) trivial
      refine asked_call _ _ (want_at 26 70 false false rfl rfl ((hw 70 26 rfl).trans (hd 26 rfl))) (run_call rfl (EF _) Try.func81 (by kernel_rfl) (by kernel_rfl) (by simp only [List.map_toArray,List.map_cons,List.map_nil,E71,h27,EF]; rfl)) ?_
      refine (trimmed_any H b W (hbkr.ext hb) (hr.below hb) e4.out e3.out).mono ?_
      rintro r w1 ⟨rfl,hb1⟩
      exact ⟨_,rfl,hb1,rfl⟩
     intro y W2 hbW2 _
     have hbr2:=below_next hbr hbW2
     clear hbW2
     cases ht:trimB H.ma with
     | false=>
      have hp7:Hid (partsE H.ma = 7):=Lib.hid (by rw [hp2.out,if_pos ht])
      clear c1 c2 c1i
      go_wp2
      go_ret
      rw [hp7.out]
      exact ⟨rfl,hbr2⟩
     | true=>
      have hp3:Hid (partsE H.ma = if 4 < H.sp.length then 4 else firstE (H.ma.sp.map spaceE)):=Lib.hid (by rw [hp2.out,if_neg (by rw [ht]; decide)])
      clear c1 c2 c1i hcb ht
      have hr2:=h.below hbr2
      have hcb:=(hbk.ext hbr2).cell
      unfold mhC at hcb
      clear hr hbkr hP hp2 hbr
      by_cases c4:4 < H.sp.length
      ·have hp4:Hid (partsE H.ma = 4):=Lib.hid (by rw [hp3.out,if_pos c4])
       have c4i:(4:Int) < (H.sp.length:Int):=by omega
       clear c4
       go_wp2
       go_ret
       rw [hp4.out]
       exact ⟨rfl,hbr2⟩
      ·have hp4:Hid (partsE H.ma = firstE (H.ma.sp.map spaceE)):=Lib.hid (by rw [hp3.out,if_neg c4])
       have c4i:¬ (4:Int) < (H.sp.length:Int):=by omega
       have hlen:Hid ((H.ma.sp.map spaceE).length = H.sp.length):=Lib.hid (by rw [List.length_map,spH])
       clear c4 hp3
       go_upto_region 12 with (fail)
       clear hcb hr2
       go_loopw [86] (fun i wr => ∃ (k:Nat),k ≤ H.sp.length ∧ i = .int .i64 k ∧ Below w.heap.size w wr ∧ Hid (∀ j (hj:j < (H.ma.sp.map spaceE).length),j < k → (H.ma.sp.map spaceE)[j] = 0)) (fun i _=>H.sp.length - (intOf i).toNat)
       case atStart=>exact ⟨0,Nat.zero_le _,rfl,hbr2,Lib.hid fun j _ hj=>absurd hj (Nat.not_lt_zero _)⟩
       case round=>
        clear hbr2
        obtain ⟨k,hk,rfl,hbr,hz⟩:=hrel
        by_cases hkl:k < H.sp.length
        ·obtain ⟨bs,os,P,hap,hP,hrd⟩:=ps_at (h.below hbr).sp.rd k hkl
         have hgood:=ps_good (h.below hbr) hP
         have hki:(k:Int) < (H.sp.length:Int):=by omega
         have hkm:k < (H.ma.sp.map spaceE).length:=by rw [hlen.out]; exact hkl
         have hE:Hid ((H.ma.sp.map spaceE)[k] = spaceE P.sp):=Lib.hid (by
          rw [List.getElem_map]
          congr 1
          have:H.ma.sp[k]? = some P.sp:=by show (H.sp.map PS.sp)[k]? = _; rw [List.getElem?_map,hP]; rfl
          exact (List.getElem?_eq_some_iff.1 this).2)
         have hfin:Hid (spaceE P.sp ≠ 0 → partsE H.ma = spaceE P.sp):=Lib.hid fun hne=>by
          rw [hp4.out,firstE_at k hkm hz.out (by rw [hE.out]; exact hne),hE.out]
         have hnx:Hid (spaceE P.sp = 0 → ∀ j (hj:j < (H.ma.sp.map spaceE).length),j < k + 1 → (H.ma.sp.map spaceE)[j] = 0):=Lib.hid fun h0 j hj hjk=>by
          by_cases e:j = k
          ·subst e; rw [hE.out]; exact h0
          ·exact hz.out j hj (by omega)
         have hsp:Hid (spaceE P.sp = if (wrongA P.ar).1 ≠ 0 then (wrongA P.ar).1 else if wrongT P.tb ≠ 0 then wrongT P.tb else if P.lv = false ∧ 0 < P.ar.length + (pagesL P.tb).length then 7 else 0):=Lib.hid rfl
         rw [hap]
         clear hz hP hE hkm
         have hps1:(psC P).all (·.oneCell') = true:=by
          rw [← Array.all_toList,List.all_eq_true]; exact hgood.one
         go_wp2_with (first | (refine wpList_ldg _ _ rfl bs (os + k * 10) rfl rfl _ hrd _ Try.underlying65 rfl space_size ?_) | (refine wpList_stn rfl _ _ _ rfl (psC P) rfl rfl rfl space_size hps1 ?_))
         intro w3 hb3 fx3
         have hbr3:=below_next hbr hb3
         have hg3:=hgood.below hb3
         have hgl:=fx3.lt
         generalize wr.heap.size = gs at fx3 hgl ⊢
         clear hbr hb3 hrd hgood hps1
         have hcf:=fx3.cell
         unfold psC at hcf
         have hA:=hg3.ars
         go_wp2_with fail
         refine (awrong_any P.ar P.aa P.ac _ hA.rd (by have:=hA.le; have:=hA.mx; unfold maxLen at this; omega)).mono ?_
         rintro r w3' ⟨rfl,hb3'⟩
         have fx3':=fx3.ext hb3'
         have hbr3':=below_next hbr3 hb3'
         have hg3':=hg3.below hb3'
         clear hcf fx3 hbr3 hg3 hb3' hA
         go_wp2_with (refine wpList_stn rfl _ _ _ rfl (fauC (wrongA P.ar)) rfl rfl rfl fau_size (by simp [fauC,Value.oneCell']) ?_)
         intro w4 hb4 ux
         have fx:=fx3'.ext hb4
         have hbr4:=below_next hbr3' hb4
         have hg4:=hg3'.below hb4
         clear fx3' hbr3' hg3' hb4
         have hcu:=ux.cell
         unfold fauC at hcu
         by_cases c5:(wrongA P.ar).1 = 0
         ·rw [if_neg (by rw [c5]; simp)] at hsp
          rw [c5] at hcu
          have hal:=(wrong_all c5).1
          have hpl:(pagesL P.tb).length ≤ 64:=pagesTo_le P.tb 64
          have hws:IntKind.i64.wrap ((P.ar.length:Int) + ((pagesL P.tb).length:Int)) = (P.ar.length:Int) + ((pagesL P.tb).length:Int):=IntWalk.i64_in _ (by omega)
          go_upto_region 17 with (fail)
          clear hcu ux c5
          go_wp2_with (refine wpList_ldg _ _ rfl gs 2 rfl rfl _ (blk_part fx 2 8) _ Try.underlying63 tab_agg tab_size ?_)
          refine (twrong_any P.tb (tsC P.ts) _ hg4.tb).mono ?_
          rintro r w6 ⟨rfl,hb6⟩
          replace fx:=fx.ext hb6
          replace hbr4:=below_next hbr4 hb6
          replace hg4:=hg4.below hb6
          clear hb6
          by_cases c6:wrongT P.tb = 0
          ·rw [if_neg (by rw [c6]; simp)] at hsp
           rw [c6]
           go_upto_region 20 with (fail)
           cases hlv:P.lv with
           | true=>
            have hs0:Hid (spaceE P.sp = 0):=Lib.hid (by rw [hsp.out,if_neg (by rw [hlv]; simp)])
            refine wp_growP 14 [_,_,_,_,_,_,_,_,_,_,_,_,_,.v (.bool false)] (Gf gs 0 rfl rfl (Gl fx (V:=.bool true) (by simp [psC,hlv]) rfl rfl rfl rfl (Gk rfl (Gk rfl (Gk rfl (Gk rfl (Gk rfl (Gk rfl (Gk rfl (Gk rfl (Gk rfl (Gk rfl (Gk rfl (Gk rfl (all_nil))))))))))))))) (fun _=>rfl) rfl ?_
            intro y W5 hbW5 _
            have hbr5:=below_next hbr4 hbW5
            clear hbW5
            have hall:=Lib.hid (hnx.out hs0.out)
            clear hws fx hg4
            go_wp2
            go_roundw
            case rel=>exact ⟨k + 1,by omega,by go_num,hbr5,hall⟩
            case measure=>simp [intOf]; omega
           | false=>
            refine wp_growP 14 [_,_,_,_,_,_,_,_,_,.r 9 ((ownR w6.heap.size 3 1 (pagesL P.tb).length ((pagesL P.tb).map inV))),.v (.int .i64 (pagesL P.tb).length),_,_,.v (.bool (decide (0 < (P.ar.length:Int) + ((pagesL P.tb).length:Int))))] (Gf gs 0 rfl rfl (Gl fx (V:=.bool false) (by simp [psC,hlv]) rfl rfl rfl rfl (Gk rfl (Gk rfl (Gf gs 1 rfl rfl (Gl fx rfl rfl rfl rfl rfl (Gn rfl rfl rfl rfl (Gf gs 2 rfl rfl (Gr (.agg (tsC P.ts)) (fun ρ y W hb hk=>(run_load_rd rfl (kx_at rfl hk) (blk_part (fx.ext hb) 2 8) Try.underlying63 tab_agg tab_size)) rfl rfl (all_cons ?_ (all_cons ?_ (Gb (.int .i64 ((P.ar.length:Int) + ((pagesL P.tb).length:Int))) (by simp [go_sem,hws]) rfl rfl rfl rfl rfl (Gb (.bool (decide (0 < (P.ar.length:Int) + ((pagesL P.tb).length:Int)))) (by simp [go_sem]) rfl rfl rfl rfl rfl (Gk rfl (all_nil))))))))))))))) (fun _=>rfl) rfl ?_
            ·intro ρ y W hw hn hb hd; have E112:=hw 112 8 rfl; have h8:y 8 = _:=hd 8 rfl
             have EF:∀ f,ρ (.func f) = .func (.func f) #[] #[]:=fun f=>hn (.func f) trivial
             refine asked_call _ _ (want_at 3 107 true true rfl rfl ((hw 107 3 rfl).trans (hd 3 rfl))) (run_call rfl (EF _) Try.func37 (by kernel_rfl) (by kernel_rfl) (by simp only [List.map_toArray,List.map_cons,List.map_nil,E112,h8,EF]; rfl)) ?_
             refine (tpages_any P.tb (tsC P.ts) W (hg4.below hb).tb).mono ?_
             rintro r w1 ⟨v,rfl,ho,hb1⟩
             exact ⟨_,rfl,hb1,ho.mono hb.size⟩
            ·intro ρ y W hw hn hb hd; have E113:=hw 113 9 rfl; have h9:=hd 9 rfl
             obtain ⟨a9,c9,e9,_⟩:=Own.rd h9
             refine asked_val (.int .i64 (pagesL P.tb).length) (want_at 3 107 true true rfl rfl ((hw 107 3 rfl).trans (hd 3 rfl))) (run_lenS rfl (E113.trans e9) rfl) rfl
            intro y W5 hbW5 hRW5
            have hy9:((ownR w6.heap.size 3 1 (pagesL P.tb).length ((pagesL P.tb).map inV))).r (y 9) W5:=hRW5 9 (by decide)
            clear hRW5
            have hbr5:=below_next hbr4 hbW5
            clear hbW5
            by_cases c7:0 < P.ar.length + (pagesL P.tb).length
            ·have hq:Hid (partsE H.ma = 7):=Lib.hid (by rw [hfin.out (by rw [hsp.out,if_pos ⟨hlv,c7⟩]; decide),hsp.out,if_pos ⟨hlv,c7⟩])
             have hd:decide (0 < (P.ar.length:Int) + ((pagesL P.tb).length:Int)) = true:=decide_eq_true (by omega)
             rw [hd]
             clear hws fx hg4 hd c7
             go_wp2
             go_ret
             rw [hq.out]
             exact ⟨rfl,hbr5⟩
            ·have hs0:Hid (spaceE P.sp = 0):=Lib.hid (by rw [hsp.out,if_neg (fun h'=>c7 h'.2)])
             have hall:=Lib.hid (hnx.out hs0.out)
             have hd:decide (0 < (P.ar.length:Int) + ((pagesL P.tb).length:Int)) = false:=decide_eq_false (by omega)
             rw [hd]
             clear hws fx hg4 hd c7
             go_wp2
             go_roundw
             case rel=>exact ⟨k + 1,by omega,by go_num,hbr5,hall⟩
             case measure=>simp [intOf]; omega
          ·rw [if_pos c6] at hsp
           have hq:Hid (partsE H.ma = wrongT P.tb):=Lib.hid (by rw [hfin.out (by rw [hsp.out]; exact c6),hsp.out])
           generalize wrongT P.tb = E at *
           go_wp2
           go_ret
           rw [hq.out]
           exact ⟨rfl,hbr4⟩
         ·rw [if_pos c5] at hsp
          have hq:Hid (partsE H.ma = (wrongA P.ar).1):=Lib.hid (by rw [hfin.out (by rw [hsp.out]; exact c5),hsp.out])
          generalize (wrongA P.ar).1 = E at *
          go_wp2
          go_ret
          rw [hq.out]
          exact ⟨rfl,hbr4⟩
        ·have hki:¬ (k:Int) < (H.sp.length:Int):=by omega
         have hq:Hid (partsE H.ma = 0):=Lib.hid (by rw [hp4.out,firstE_none fun i hi=>hz.out i hi (by rw [hlen.out] at hi; omega)])
         clear hz
         go_wp2
         go_ret
         rw [hq.out]
         exact ⟨rfl,hbr⟩
    ·have hp7:Hid (partsE H.ma = 7):=Lib.hid (by rw [hP.out,if_pos (.inr (.inl c2))])
     refine wp_growP 31 [_,_,_,_,_,_,_,_,_,_,_,_,_,_,_,_,_,_,_,_,_,_,_,_,_,_,_,_,_,_,.v (.bool true)] (Gk rfl (Gk rfl (Gf b 3 rfl rfl (Gf b 3 rfl rfl (Gl hbkr rfl rfl rfl rfl rfl (Gn rfl rfl rfl rfl (Gk rfl (Gk rfl (Gf b 2 rfl rfl (Gl hbkr rfl rfl rfl rfl rfl (Gn rfl rfl rfl rfl (Gb (.bool false) (by simp [go_sem,c1]) rfl rfl rfl rfl rfl (Gk rfl (Gk rfl (Gk rfl (Gf b 5 rfl rfl (Gf b 5 rfl rfl (Gl hbkr rfl rfl rfl rfl rfl (Gn rfl rfl rfl rfl (Gk rfl (Gk rfl (Gf b 7 rfl rfl (Gf b 8 rfl rfl (Gl hbkr rfl rfl rfl rfl rfl (Gb (.bool true) (by simp [go_sem,c2]) rfl rfl rfl rfl rfl (Gk rfl (Gk rfl (Gk rfl (Gk rfl (Gk rfl (Gk rfl (all_nil)))))))))))))))))))))))))))))))) (fun _=>rfl) rfl ?_
     intro y W2 hbW2 _
     have hbr2:=below_next hbr hbW2
     clear hbW2
     clear c1 c2
     go_wp2
     go_ret
     rw [hp7.out]
     exact ⟨rfl,hbr2⟩
   ·have hp7:Hid (partsE H.ma = 7):=Lib.hid (by rw [hP.out,if_pos (.inl c1)])
    have c1i:¬ ((H.sw.blocks.length:Int) = (H.sl.length:Int)):=by omega
    have c2:=c1
    refine wp_growP 31 [_,_,_,_,_,_,_,_,_,_,_,_,_,_,_,_,_,_,_,_,_,_,_,_,_,_,_,_,_,_,.v (.bool true)] (Gk rfl (Gk rfl (Gf b 3 rfl rfl (Gf b 3 rfl rfl (Gl hbkr rfl rfl rfl rfl rfl (Gn rfl rfl rfl rfl (Gk rfl (Gk rfl (Gf b 2 rfl rfl (Gl hbkr rfl rfl rfl rfl rfl (Gn rfl rfl rfl rfl (Gb (.bool true) (by simp [go_sem,c1i]) rfl rfl rfl rfl rfl (Gk rfl (Gk rfl (Gk rfl (Gk rfl (Gk rfl (Gk rfl (Gk rfl (Gk rfl (Gk rfl (Gk rfl (Gk rfl (Gk rfl (Gk rfl (Gk rfl (Gk rfl (Gk rfl (Gk rfl (Gk rfl (Gk rfl (all_nil)))))))))))))))))))))))))))))))) (fun _=>rfl) rfl ?_
    intro y W2 hbW2 _
    have hbr2:=below_next hbr hbW2
    clear hbW2
    clear c1 c1i c2
    go_wp2
    go_ret
    rw [hp7.out]
    exact ⟨rfl,hbr2⟩
theorem cacheE_3 {m:Ma} {p:Option Cc} {c:Cc} (h:c.f < 0 ∨ (m.st.fs.length:Int) ≤ c.f ∨ c.i < 0 ∨ ((fileAt m.st c.f).b.length:Int) ≤ c.i ∨ c.k < 0 ∨ (m.m.fs.length:Int) ≤ c.k):cacheE m p c = 3:=by
 unfold cacheE; rw [if_pos h]
theorem cached_any (H:MH) (b:Nat) (w:World) (hbk:Blk w b (mhC H) 40) (h:MaR w H) :
  Calls Try.prog 36 #[.pointer (some ⟨b,0,none⟩)] w fun r w'=>r = .returned (.int .i64 (cachedE H.ma)) ∧ Below w.heap.size w w':=by
 have hmm:=h.ca.le
 have hmx:=h.ca.mx
 unfold maxLen at hmx
 go_enter Try.func36,Try.ntmps36
 have hcb:=hbk.cell
 unfold mhC at hcb
 obtain ⟨L,hL⟩:∃ L,L = (List.range H.ca.length).map fun k=>cacheE H.ma (prevC H.ca k) (H.ca.getD k zCc):=⟨_,rfl⟩
 have hLl:Hid (L.length = H.ca.length):=Lib.hid (by rw [hL]; simp)
 have hLE:Hid (cachedE H.ma = firstE L):=Lib.hid (by rw [hL]; rfl)
 have hLg:Hid (∀ k (hk:k < L.length),L[k] = cacheE H.ma (prevC H.ca k) (H.ca.getD k zCc)):=Lib.hid fun k hk=>by simp [hL]
 clear hL
 go_upto_region 2 with (fail)
 clear hcb
 go_loopw [11] (fun i wr => ∃ (k:Nat),k ≤ H.ca.length ∧ i = .int .i64 k ∧ Below w.heap.size w wr ∧ Hid (∀ j (hj:j < L.length),j < k → L[j] = 0)) (fun i _=>H.ca.length - (intOf i).toNat)
 case atStart=>exact ⟨0,Nat.zero_le _,rfl,Below.refl _ _,Lib.hid fun j _ hj=>absurd hj (Nat.not_lt_zero _)⟩
 case round=>
  obtain ⟨k,hk,rfl,hbr,hz⟩:=hrel
  by_cases hkl:k < H.ca.length
  ·obtain ⟨bc,oc,hac,hrd⟩:=elemR ccL_len (by decide) (h.below hbr).ca.rd k hkl
   have hki:(k:Int) < (H.ca.length:Int):=by omega
   have hkL:k < L.length:=by rw [hLl.out]; exact hkl
   have hE:Hid (L[k] = cacheE H.ma (prevC H.ca k) H.ca[k]):=Lib.hid (by rw [hLg.out k hkL,List.getD_eq_getElem?_getD,List.getElem?_eq_getElem hkl]; rfl)
   have hfin:Hid (L[k] ≠ 0 → cachedE H.ma = L[k]):=Lib.hid fun hne=>by rw [hLE.out,firstE_at k hkL hz.out hne]
   have hnx:Hid (L[k] = 0 → ∀ j (hj:j < L.length),j < k + 1 → L[j] = 0):=Lib.hid fun h0 j hj hjk=>by
    by_cases e:j = k
    ·subst e; exact h0
    ·exact hz.out j hj (by omega)
   generalize hLk:L[k] = Lk at *
   have hpv:Hid (prevC H.ca k = if k = 0 then none else H.ca[k - 1]?):=Lib.hid rfl
   generalize hc:H.ca[k] = c at *
   rw [hac]
   clear hz hkL hLk hc
   go_wp2_with (first | (refine wpList_ldg _ _ rfl bc (oc + k * 3) rfl rfl _ hrd _ Try.underlying85 rfl cached_size ?_) | (refine wpList_stn rfl _ _ _ rfl (ccC c) rfl rfl rfl cached_size (ccC_one c) ?_))
   intro w3 hb3 cx
   have hbr3:=below_next hbr hb3
   have hbk3:=hbk.ext hbr3
   have hr3:=h.below hbr3
   generalize wr.heap.size = gc at cx ⊢
   clear hb3 hrd hbr
   go_upto_region 4 with (fail)
   obtain ⟨bf,of,F,P,hai,hFl,hcF,hcs⟩:∃ (bf of F:Nat) (P:PF),(0 ≤ c.f → c.f < H.fi.length → H.ai = some ⟨bf,of,none⟩) ∧ (0 ≤ c.f → c.f < H.fi.length → F < H.fi.length) ∧ (0 ≤ c.f → c.f < H.fi.length → c.f = (F:Int) ∧ fileAt H.ma.st c.f = P.fi) ∧ (0 ≤ c.f → c.f < H.fi.length → ∀ W,Below w3.heap.size w3 W → W.cell? ⟨bf,of + F * 2 + 1,none⟩ = some (.slice P.a P.l.length P.c)):=by
    by_cases hc0:0 ≤ c.f ∧ c.f < H.fi.length
    ·have hFl:c.f.toNat < H.fi.length:=by omega
     obtain ⟨bf,of,P,hai,hP,hcn,hcs⟩:=pf_at hr3.st.rd c.f.toNat hFl
     refine ⟨bf,of,c.f.toNat,P,fun _ _=>hai,fun _ _=>hFl,fun _ _=>⟨by omega,?_⟩,fun _ _ W hb => ?_⟩
     ·have:(H.fi.map PF.fi)[c.f.toNat]? = some P.fi:=by rw [List.getElem?_map,hP]; rfl
      have h2:=fileAt_nat (s:=H.ma.st) (F:=c.f.toNat) this
      rw [← h2]
      congr 1; omega
     ·obtain ⟨bf',of',P',hai',hP',hcn',hcs'⟩:=pf_at (hr3.below hb).st.rd c.f.toNat hFl
      rw [hP] at hP'
      cases hP'
      rw [hai] at hai'
      cases hai'
      exact hcs'
    ·exact ⟨0,0,0,⟨0,none,[],0⟩,fun h1 h2=>absurd ⟨h1,h2⟩ hc0,fun h1 h2=>absurd ⟨h1,h2⟩ hc0,fun h1 h2=>absurd ⟨h1,h2⟩ hc0,fun h1 h2=>absurd ⟨h1,h2⟩ hc0⟩
   by_cases c1:c.f < 0
   ·have hbad:Hid (c.f < 0 ∨ (H.ma.st.fs.length:Int) ≤ c.f ∨ c.i < 0 ∨ ((fileAt H.ma.st c.f).b.length:Int) ≤ c.i ∨ c.k < 0 ∨ (H.ma.m.fs.length:Int) ≤ c.k):=Lib.hid (.inl c1)
    refine wp_growP 51 [_,_,_,_,_,_,_,_,_,_,_,_,_,_,_,_,_,_,_,_,_,_,_,_,_,_,_,_,_,_,_,_,_,_,_,_,_,_,_,_,_,_,_,_,_,_,_,_,_,_,.v (.bool true)] (Gf gc 0 rfl rfl (Gl cx rfl rfl rfl rfl rfl (Gb (.bool true) (by simp [go_sem,c1]) rfl rfl rfl rfl rfl (Gk rfl (Gk rfl (Gk rfl (Gk rfl (Gk rfl (Gk rfl (Gk rfl (Gk rfl (Gk rfl (Gk rfl (Gk rfl (Gk rfl (Gk rfl (Gk rfl (Gk rfl (Gk rfl (Gk rfl (Gk rfl (Gk rfl (Gk rfl (Gk rfl (Gk rfl (Gk rfl (Gk rfl (Gk rfl (Gk rfl (Gk rfl (Gk rfl (Gk rfl (Gk rfl (Gk rfl (Gk rfl (Gk rfl (Gk rfl (Gk rfl (Gk rfl (Gk rfl (Gk rfl (Gk rfl (Gk rfl (Gk rfl (Gk rfl (Gk rfl (Gk rfl (Gk rfl (Gk rfl (Gk rfl (Gk rfl (all_nil)))))))))))))))))))))))))))))))))))))))))))))))))))) (fun _=>rfl) rfl ?_
    intro y W4 hbW4 _
    have hbr4:=below_next hbr3 hbW4
    replace cx:=cx.ext hbW4
    clear hbW4
    have hL3:Hid (Lk = 3):=Lib.hid (by rw [hE.out]; exact cacheE_3 hbad.out)
    have hq:Hid (cachedE H.ma = 3):=Lib.hid (by rw [hfin.out (by rw [hL3.out]; decide),hL3.out])
    clear hai hFl hcF hcs
    go_wp2
    go_ret
    rw [hq.out]
    exact ⟨rfl,hbr4⟩
   have hfl:Hid (H.ma.st.fs.length = H.fi.length):=Lib.hid (List.length_map _)
   by_cases c2:(H.fi.length:Int) ≤ c.f
   ·have hbad:Hid (c.f < 0 ∨ (H.ma.st.fs.length:Int) ≤ c.f ∨ c.i < 0 ∨ ((fileAt H.ma.st c.f).b.length:Int) ≤ c.i ∨ c.k < 0 ∨ (H.ma.m.fs.length:Int) ≤ c.k):=Lib.hid (.inr (.inl (by rw [hfl.out]; exact c2)))
    refine wp_growP 51 [_,_,_,_,_,_,_,_,_,_,_,_,_,_,_,_,_,_,_,_,_,_,_,_,_,_,_,_,_,_,_,_,_,_,_,_,_,_,_,_,_,_,_,_,_,_,_,_,_,_,.v (.bool true)] (Gf gc 0 rfl rfl (Gl cx rfl rfl rfl rfl rfl (Gb (.bool false) (by simp [go_sem,c1]) rfl rfl rfl rfl rfl (Gk rfl (Gf gc 0 rfl rfl (Gl cx rfl rfl rfl rfl rfl (Gk rfl (Gk rfl (Gf b 7 rfl rfl (Gf b 7 rfl rfl (Gl hbk3 rfl rfl rfl rfl rfl (Gn rfl rfl rfl rfl (Gb (.bool true) (by simp [go_sem,c2]) rfl rfl rfl rfl rfl (Gk rfl (Gk rfl (Gk rfl (Gk rfl (Gk rfl (Gk rfl (Gk rfl (Gk rfl (Gk rfl (Gk rfl (Gk rfl (Gk rfl (Gk rfl (Gk rfl (Gk rfl (Gk rfl (Gk rfl (Gk rfl (Gk rfl (Gk rfl (Gk rfl (Gk rfl (Gk rfl (Gk rfl (Gk rfl (Gk rfl (Gk rfl (Gk rfl (Gk rfl (Gk rfl (Gk rfl (Gk rfl (Gk rfl (Gk rfl (Gk rfl (Gk rfl (Gk rfl (Gk rfl (all_nil)))))))))))))))))))))))))))))))))))))))))))))))))))) (fun _=>rfl) rfl ?_
    intro y W4 hbW4 _
    have hbr4:=below_next hbr3 hbW4
    replace cx:=cx.ext hbW4
    clear hbW4
    have hL3:Hid (Lk = 3):=Lib.hid (by rw [hE.out]; exact cacheE_3 hbad.out)
    have hq:Hid (cachedE H.ma = 3):=Lib.hid (by rw [hfin.out (by rw [hL3.out]; decide),hL3.out])
    clear hai hFl hcF hcs
    go_wp2
    go_ret
    rw [hq.out]
    exact ⟨rfl,hbr4⟩
   replace hai:=hai (by omega) (by omega)
   replace hFl:=hFl (by omega) (by omega)
   obtain ⟨hcF,hfA⟩:=hcF (by omega) (by omega)
   replace hcs:=hcs (by omega) (by omega)
   have hfA':=Lib.hid hfA
   clear hfA
   by_cases c3:c.i < 0
   ·have hbad:Hid (c.f < 0 ∨ (H.ma.st.fs.length:Int) ≤ c.f ∨ c.i < 0 ∨ ((fileAt H.ma.st c.f).b.length:Int) ≤ c.i ∨ c.k < 0 ∨ (H.ma.m.fs.length:Int) ≤ c.k):=Lib.hid (.inr (.inr (.inl c3)))
    refine wp_growP 51 [_,_,_,_,_,_,_,_,_,_,_,_,_,_,_,_,_,_,_,_,_,_,_,_,_,_,_,_,_,_,_,_,_,_,_,_,_,_,_,_,_,_,_,_,_,_,_,_,_,_,.v (.bool true)] (Gf gc 0 rfl rfl (Gl cx rfl rfl rfl rfl rfl (Gb (.bool false) (by simp [go_sem,c1]) rfl rfl rfl rfl rfl (Gk rfl (Gf gc 0 rfl rfl (Gl cx rfl rfl rfl rfl rfl (Gk rfl (Gk rfl (Gf b 7 rfl rfl (Gf b 7 rfl rfl (Gl hbk3 rfl rfl rfl rfl rfl (Gn rfl rfl rfl rfl (Gb (.bool false) (by simp [go_sem,c2]) rfl rfl rfl rfl rfl (Gk rfl (Gk rfl (Gf gc 1 rfl rfl (Gl cx rfl rfl rfl rfl rfl (Gb (.bool true) (by simp [go_sem,c3]) rfl rfl rfl rfl rfl (Gk rfl (Gk rfl (Gk rfl (Gk rfl (Gk rfl (Gk rfl (Gk rfl (Gk rfl (Gk rfl (Gk rfl (Gk rfl (Gk rfl (Gk rfl (Gk rfl (Gk rfl (Gk rfl (Gk rfl (Gk rfl (Gk rfl (Gk rfl (Gk rfl (Gk rfl (Gk rfl (Gk rfl (Gk rfl (Gk rfl (Gk rfl (Gk rfl (Gk rfl (Gk rfl (Gk rfl (Gk rfl (Gk rfl (all_nil)))))))))))))))))))))))))))))))))))))))))))))))))))) (fun _=>rfl) rfl ?_
    intro y W4 hbW4 _
    have hbr4:=below_next hbr3 hbW4
    replace cx:=cx.ext hbW4
    clear hbW4
    have hL3:Hid (Lk = 3):=Lib.hid (by rw [hE.out]; exact cacheE_3 hbad.out)
    have hq:Hid (cachedE H.ma = 3):=Lib.hid (by rw [hfin.out (by rw [hL3.out]; decide),hL3.out])
    clear hai hFl hcF hcs
    go_wp2
    go_ret
    rw [hq.out]
    exact ⟨rfl,hbr4⟩
   by_cases c4:(P.l.length:Int) ≤ c.i
   ·have hbad:Hid (c.f < 0 ∨ (H.ma.st.fs.length:Int) ≤ c.f ∨ c.i < 0 ∨ ((fileAt H.ma.st c.f).b.length:Int) ≤ c.i ∨ c.k < 0 ∨ (H.ma.m.fs.length:Int) ≤ c.k):=Lib.hid (.inr (.inr (.inr (.inl (by rw [hfA'.out]; exact c4)))))
    refine wp_growP 51 [_,_,_,_,_,_,_,_,_,_,_,_,_,_,_,_,_,_,_,_,_,_,_,_,_,_,_,_,_,_,_,_,_,_,_,_,_,_,_,_,_,_,_,_,_,_,_,_,_,_,.v (.bool true)] (Gf gc 0 rfl rfl (Gl cx rfl rfl rfl rfl rfl (Gb (.bool false) (by simp [go_sem,c1]) rfl rfl rfl rfl rfl (Gk rfl (Gf gc 0 rfl rfl (Gl cx rfl rfl rfl rfl rfl (Gk rfl (Gk rfl (Gf b 7 rfl rfl (Gf b 7 rfl rfl (Gl hbk3 rfl rfl rfl rfl rfl (Gn rfl rfl rfl rfl (Gb (.bool false) (by simp [go_sem,c2]) rfl rfl rfl rfl rfl (Gk rfl (Gk rfl (Gf gc 1 rfl rfl (Gl cx rfl rfl rfl rfl rfl (Gb (.bool false) (by simp [go_sem,c3]) rfl rfl rfl rfl rfl (Gk rfl (Gk rfl (Gf gc 1 rfl rfl (Gl cx rfl rfl rfl rfl rfl (Gk rfl (Gk rfl (Gf b 7 rfl rfl (Gf b 7 rfl rfl (Gl hbk3 (V:=.slice (some ⟨bf,of,none⟩) H.fi.length H.ci) (by simp [mhC,hai]) rfl rfl rfl rfl (Gf gc 0 rfl rfl (Gl cx (V:=.int .i64 (F:Int)) (by simp [ccC,hcF]) rfl rfl rfl rfl (Gr (.pointer (some ⟨bf,of + F * 2,none⟩)) (fun ρ y W hb hk=>(run_idx rfl (kx_at rfl hk) (kx_at rfl hk) hFl Try.underlying34 file_size)) rfl rfl (Gf bf (of + F * 2 + 1) rfl rfl (Gc (.slice P.a P.l.length P.c) (fun W hb=>by simp [hcs _ hb]) rfl rfl rfl rfl (Gn rfl rfl rfl rfl (Gb (.bool true) (by simp [go_sem,c4]) rfl rfl rfl rfl rfl (Gk rfl (Gk rfl (Gk rfl (Gk rfl (Gk rfl (Gk rfl (Gk rfl (Gk rfl (Gk rfl (Gk rfl (Gk rfl (Gk rfl (Gk rfl (Gk rfl (Gk rfl (Gk rfl (Gk rfl (all_nil)))))))))))))))))))))))))))))))))))))))))))))))))))) (fun _=>rfl) rfl ?_
    intro y W4 hbW4 _
    have hbr4:=below_next hbr3 hbW4
    replace cx:=cx.ext hbW4
    clear hbW4
    have hL3:Hid (Lk = 3):=Lib.hid (by rw [hE.out]; exact cacheE_3 hbad.out)
    have hq:Hid (cachedE H.ma = 3):=Lib.hid (by rw [hfin.out (by rw [hL3.out]; decide),hL3.out])
    clear hai hFl hcF hcs
    go_wp2
    go_ret
    rw [hq.out]
    exact ⟨rfl,hbr4⟩
   by_cases c5:c.k < 0
   ·have hbad:Hid (c.f < 0 ∨ (H.ma.st.fs.length:Int) ≤ c.f ∨ c.i < 0 ∨ ((fileAt H.ma.st c.f).b.length:Int) ≤ c.i ∨ c.k < 0 ∨ (H.ma.m.fs.length:Int) ≤ c.k):=Lib.hid (.inr (.inr (.inr (.inr (.inl c5)))))
    refine wp_growP 51 [_,_,_,_,_,_,_,_,_,_,_,_,_,_,_,_,_,_,_,_,_,_,_,_,_,_,_,_,_,_,_,_,_,_,_,_,_,_,_,_,_,_,_,_,_,_,_,_,_,_,.v (.bool true)] (Gf gc 0 rfl rfl (Gl cx rfl rfl rfl rfl rfl (Gb (.bool false) (by simp [go_sem,c1]) rfl rfl rfl rfl rfl (Gk rfl (Gf gc 0 rfl rfl (Gl cx rfl rfl rfl rfl rfl (Gk rfl (Gk rfl (Gf b 7 rfl rfl (Gf b 7 rfl rfl (Gl hbk3 rfl rfl rfl rfl rfl (Gn rfl rfl rfl rfl (Gb (.bool false) (by simp [go_sem,c2]) rfl rfl rfl rfl rfl (Gk rfl (Gk rfl (Gf gc 1 rfl rfl (Gl cx rfl rfl rfl rfl rfl (Gb (.bool false) (by simp [go_sem,c3]) rfl rfl rfl rfl rfl (Gk rfl (Gk rfl (Gf gc 1 rfl rfl (Gl cx rfl rfl rfl rfl rfl (Gk rfl (Gk rfl (Gf b 7 rfl rfl (Gf b 7 rfl rfl (Gl hbk3 (V:=.slice (some ⟨bf,of,none⟩) H.fi.length H.ci) (by simp [mhC,hai]) rfl rfl rfl rfl (Gf gc 0 rfl rfl (Gl cx (V:=.int .i64 (F:Int)) (by simp [ccC,hcF]) rfl rfl rfl rfl (Gr (.pointer (some ⟨bf,of + F * 2,none⟩)) (fun ρ y W hb hk=>(run_idx rfl (kx_at rfl hk) (kx_at rfl hk) hFl Try.underlying34 file_size)) rfl rfl (Gf bf (of + F * 2 + 1) rfl rfl (Gc (.slice P.a P.l.length P.c) (fun W hb=>by simp [hcs _ hb]) rfl rfl rfl rfl (Gn rfl rfl rfl rfl (Gb (.bool false) (by simp [go_sem,c4]) rfl rfl rfl rfl rfl (Gk rfl (Gk rfl (Gf gc 2 rfl rfl (Gl cx rfl rfl rfl rfl rfl (Gb (.bool true) (by simp [go_sem,c5]) rfl rfl rfl rfl rfl (Gk rfl (Gk rfl (Gk rfl (Gk rfl (Gk rfl (Gk rfl (Gk rfl (Gk rfl (Gk rfl (Gk rfl (Gk rfl (Gk rfl (all_nil)))))))))))))))))))))))))))))))))))))))))))))))))))) (fun _=>rfl) rfl ?_
    intro y W4 hbW4 _
    have hbr4:=below_next hbr3 hbW4
    replace cx:=cx.ext hbW4
    clear hbW4
    have hL3:Hid (Lk = 3):=Lib.hid (by rw [hE.out]; exact cacheE_3 hbad.out)
    have hq:Hid (cachedE H.ma = 3):=Lib.hid (by rw [hfin.out (by rw [hL3.out]; decide),hL3.out])
    clear hai hFl hcF hcs
    go_wp2
    go_ret
    rw [hq.out]
    exact ⟨rfl,hbr4⟩
   by_cases c6:(H.m.fs.length:Int) ≤ c.k
   ·have hbad:Hid (c.f < 0 ∨ (H.ma.st.fs.length:Int) ≤ c.f ∨ c.i < 0 ∨ ((fileAt H.ma.st c.f).b.length:Int) ≤ c.i ∨ c.k < 0 ∨ (H.ma.m.fs.length:Int) ≤ c.k):=Lib.hid (.inr (.inr (.inr (.inr (.inr c6)))))
    refine wp_growP 51 [_,_,_,_,_,_,_,_,_,_,_,_,_,_,_,_,_,_,_,_,_,_,_,_,_,_,_,_,_,_,_,_,_,_,_,_,_,_,_,_,_,_,_,_,_,_,_,_,_,_,.v (.bool true)] (Gf gc 0 rfl rfl (Gl cx rfl rfl rfl rfl rfl (Gb (.bool false) (by simp [go_sem,c1]) rfl rfl rfl rfl rfl (Gk rfl (Gf gc 0 rfl rfl (Gl cx rfl rfl rfl rfl rfl (Gk rfl (Gk rfl (Gf b 7 rfl rfl (Gf b 7 rfl rfl (Gl hbk3 rfl rfl rfl rfl rfl (Gn rfl rfl rfl rfl (Gb (.bool false) (by simp [go_sem,c2]) rfl rfl rfl rfl rfl (Gk rfl (Gk rfl (Gf gc 1 rfl rfl (Gl cx rfl rfl rfl rfl rfl (Gb (.bool false) (by simp [go_sem,c3]) rfl rfl rfl rfl rfl (Gk rfl (Gk rfl (Gf gc 1 rfl rfl (Gl cx rfl rfl rfl rfl rfl (Gk rfl (Gk rfl (Gf b 7 rfl rfl (Gf b 7 rfl rfl (Gl hbk3 (V:=.slice (some ⟨bf,of,none⟩) H.fi.length H.ci) (by simp [mhC,hai]) rfl rfl rfl rfl (Gf gc 0 rfl rfl (Gl cx (V:=.int .i64 (F:Int)) (by simp [ccC,hcF]) rfl rfl rfl rfl (Gr (.pointer (some ⟨bf,of + F * 2,none⟩)) (fun ρ y W hb hk=>(run_idx rfl (kx_at rfl hk) (kx_at rfl hk) hFl Try.underlying34 file_size)) rfl rfl (Gf bf (of + F * 2 + 1) rfl rfl (Gc (.slice P.a P.l.length P.c) (fun W hb=>by simp [hcs _ hb]) rfl rfl rfl rfl (Gn rfl rfl rfl rfl (Gb (.bool false) (by simp [go_sem,c4]) rfl rfl rfl rfl rfl (Gk rfl (Gk rfl (Gf gc 2 rfl rfl (Gl cx rfl rfl rfl rfl rfl (Gb (.bool false) (by simp [go_sem,c5]) rfl rfl rfl rfl rfl (Gk rfl (Gk rfl (Gf gc 2 rfl rfl (Gl cx rfl rfl rfl rfl rfl (Gk rfl (Gk rfl (Gf b 0 rfl rfl (Gf b 0 rfl rfl (Gl hbk3 rfl rfl rfl rfl rfl (Gn rfl rfl rfl rfl (Gb (.bool true) (by simp [go_sem,c6]) rfl rfl rfl rfl rfl (Gk rfl (all_nil)))))))))))))))))))))))))))))))))))))))))))))))))))) (fun _=>rfl) rfl ?_
    intro y W4 hbW4 _
    have hbr4:=below_next hbr3 hbW4
    replace cx:=cx.ext hbW4
    clear hbW4
    have hL3:Hid (Lk = 3):=Lib.hid (by rw [hE.out]; exact cacheE_3 hbad.out)
    have hq:Hid (cachedE H.ma = 3):=Lib.hid (by rw [hfin.out (by rw [hL3.out]; decide),hL3.out])
    clear hai hFl hcF hcs
    go_wp2
    go_ret
    rw [hq.out]
    exact ⟨rfl,hbr4⟩
   refine wp_growP 51 [_,_,_,_,_,_,_,_,_,_,_,_,_,_,_,_,_,_,_,_,_,_,_,_,_,_,_,_,_,_,_,_,_,_,_,_,_,_,_,_,_,_,_,_,_,_,_,_,_,_,.v (.bool false)] (Gf gc 0 rfl rfl (Gl cx rfl rfl rfl rfl rfl (Gb (.bool false) (by simp [go_sem,c1]) rfl rfl rfl rfl rfl (Gk rfl (Gf gc 0 rfl rfl (Gl cx rfl rfl rfl rfl rfl (Gk rfl (Gk rfl (Gf b 7 rfl rfl (Gf b 7 rfl rfl (Gl hbk3 rfl rfl rfl rfl rfl (Gn rfl rfl rfl rfl (Gb (.bool false) (by simp [go_sem,c2]) rfl rfl rfl rfl rfl (Gk rfl (Gk rfl (Gf gc 1 rfl rfl (Gl cx rfl rfl rfl rfl rfl (Gb (.bool false) (by simp [go_sem,c3]) rfl rfl rfl rfl rfl (Gk rfl (Gk rfl (Gf gc 1 rfl rfl (Gl cx rfl rfl rfl rfl rfl (Gk rfl (Gk rfl (Gf b 7 rfl rfl (Gf b 7 rfl rfl (Gl hbk3 (V:=.slice (some ⟨bf,of,none⟩) H.fi.length H.ci) (by simp [mhC,hai]) rfl rfl rfl rfl (Gf gc 0 rfl rfl (Gl cx (V:=.int .i64 (F:Int)) (by simp [ccC,hcF]) rfl rfl rfl rfl (Gr (.pointer (some ⟨bf,of + F * 2,none⟩)) (fun ρ y W hb hk=>(run_idx rfl (kx_at rfl hk) (kx_at rfl hk) hFl Try.underlying34 file_size)) rfl rfl (Gf bf (of + F * 2 + 1) rfl rfl (Gc (.slice P.a P.l.length P.c) (fun W hb=>by simp [hcs _ hb]) rfl rfl rfl rfl (Gn rfl rfl rfl rfl (Gb (.bool false) (by simp [go_sem,c4]) rfl rfl rfl rfl rfl (Gk rfl (Gk rfl (Gf gc 2 rfl rfl (Gl cx rfl rfl rfl rfl rfl (Gb (.bool false) (by simp [go_sem,c5]) rfl rfl rfl rfl rfl (Gk rfl (Gk rfl (Gf gc 2 rfl rfl (Gl cx rfl rfl rfl rfl rfl (Gk rfl (Gk rfl (Gf b 0 rfl rfl (Gf b 0 rfl rfl (Gl hbk3 rfl rfl rfl rfl rfl (Gn rfl rfl rfl rfl (Gb (.bool false) (by simp [go_sem,c6]) rfl rfl rfl rfl rfl (Gk rfl (all_nil)))))))))))))))))))))))))))))))))))))))))))))))))))) (fun _=>rfl) rfl ?_
   intro y W4 hbW4 _
   have hbr4:=below_next hbr3 hbW4
   replace cx:=cx.ext hbW4
   clear hbW4
   obtain ⟨K,hcK⟩:∃ K:Nat,c.k = K:=⟨c.k.toNat,by omega⟩
   have hKl:K < H.m.fs.length:=by omega
   have hbk4:=hbk.ext hbr4
   have hr4:=h.below hbr4
   obtain ⟨bg,og,haf,hfrd⟩:=elemR frL_len (by decide) hr4.fr.rd K hKl
   have hE7:Hid (Lk = if (frN H.ma K).r < 1 ∨ (frN H.ma K).f ≠ c.f ∨ (frN H.ma K).i ≠ c.i then 7 else match prevC H.ca k with
    | none=>0
    | some q=>if c.f < q.f ∨ q.f = c.f ∧ c.i ≤ q.i then 2 else 0):=Lib.hid (by
    rw [hE.out]
    unfold cacheE
    rw [if_neg (by rw [hfl.out,hfA'.out]; show ¬ (c.f < 0 ∨ (H.fi.length:Int) ≤ c.f ∨ c.i < 0 ∨ (P.l.length:Int) ≤ c.i ∨ c.k < 0 ∨ (H.m.fs.length:Int) ≤ c.k); omega),hcK]
    rfl)
   have hxf:H.m.fs[K] = frN H.ma K:=by
    have:=frN_at (m:=H.ma) (f:=K) hKl
    have h2:H.m.fs[K]? = some (frN H.ma K):=this
    rw [List.getElem?_eq_getElem hKl] at h2
    exact Option.some.inj h2
   rw [hxf] at hfrd
   generalize frN H.ma K = x at *
   clear hxf hai hFl hcs hfA' hfl hbk3 hr3 c2 c3 c4 c5 c6 c1 hE hcF
   go_upto_region 6 with (fail)
   refine wp_growP 10 [_,_,_,_,_,_,_,_,_,.r 9 ((allocR W4.heap.size 59 13))] (Gk rfl (Gk rfl (Gf b 0 rfl rfl (Gf b 0 rfl rfl (Gl hbk4 (V:=.slice (some ⟨bg,og,none⟩) H.m.fs.length H.cf) (by simp [mhC,haf]) rfl rfl rfl rfl (Gf gc 2 rfl rfl (Gl cx (V:=.int .i64 (K:Int)) (by simp [ccC,hcK]) rfl rfl rfl rfl (Gr (.pointer (some ⟨bg,og + K * 13,none⟩)) (fun ρ y W hb hk=>(run_idx rfl (kx_at rfl hk) (kx_at rfl hk) hKl Try.underlying25 frame_size)) rfl rfl (Gr (.agg (frC x)) (fun ρ y W hb hk=>(run_load_rd rfl (kx_at rfl hk) (hfrd.below hb) Try.underlying59 rfl frame_size)) rfl rfl (all_cons ?_ (all_nil))))))))))) (fun _=>rfl) rfl ?_
   ·intro ρ y W hw hn hb hd
    refine asked_new (.pointer (some ⟨W.heap.size,0,none⟩)) (want_free rfl) (by simp [execOp,go_sem]) ((Below.refl _ _).alloc (Nat.le_refl _) (.cells #[.int .u8 0,.int .u8 0,.int .u8 0,.int .u8 0,.int .u8 0,.int .u8 0,.int .u8 0,.int .u8 0,.int .i64 0,.bool false,.bool false,.int .i64 0,.int .i64 0] 59)) ?_
    exact ⟨_,_,rfl,hb.size,Blk.new _ _ _,rfl⟩
   intro y W5 hbW5 hRW5
   have hy9:((allocR W4.heap.size 59 13)).r (y 9) W5:=hRW5 9 (by decide)
   clear hRW5
   obtain ⟨gx,curx,hgx,hgxs,hbx,hszx⟩:=hy9
   rw [hgx]
   go_wp2_with (refine wpList_st rfl _ _ _ rfl gx 0 (frC x) rfl rfl _ _ hbx (by rw [hszx]; exact Nat.le_refl _) frame_size (frC_one x) ?_)
   intro w6 hb6 hg6
   rw [putAt_whole _ _ (by rw [hszx]; rfl)] at hb6
   have hbel6:Below W4.heap.size W4 w6:=hbW5.grown hg6 hbW5.size (fun k hk=>by cases hk; exact hgxs)
   have hbr6:=below_next hbr4 hbel6
   have cx6:=cx.ext hbel6
   have hbk6:=hbk.ext hbr6
   clear hbx hbW5 hg6 cx hbk4 hr4 hfrd hbel6 hgx
   have hcx:=hb6.cell
   unfold frC at hcx
   have hcc:=cx6.cell
   unfold ccC at hcc
   by_cases d1:x.r < 1
   ·have hL7:Hid (Lk = 7):=Lib.hid (by rw [hE7.out,if_pos (.inl d1)])
    have hq:Hid (cachedE H.ma = 7):=Lib.hid (by rw [hfin.out (by rw [hL7.out]; decide),hL7.out])
    clear hbk6
    go_wp2
    go_ret
    rw [hq.out]
    exact ⟨rfl,hbr6⟩
   by_cases d2:x.f = c.f
   rotate_left
   ·have hL7:Hid (Lk = 7):=Lib.hid (by rw [hE7.out,if_pos (.inr (.inl d2))])
    have hq:Hid (cachedE H.ma = 7):=Lib.hid (by rw [hfin.out (by rw [hL7.out]; decide),hL7.out])
    clear hbk6
    go_wp2
    go_ret
    rw [hq.out]
    exact ⟨rfl,hbr6⟩
   by_cases d3:x.i = c.i
   rotate_left
   ·have hL7:Hid (Lk = 7):=Lib.hid (by rw [hE7.out,if_pos (.inr (.inr d3))])
    have hq:Hid (cachedE H.ma = 7):=Lib.hid (by rw [hfin.out (by rw [hL7.out]; decide),hL7.out])
    clear hbk6
    go_wp2
    go_ret
    rw [hq.out]
    exact ⟨rfl,hbr6⟩
   rw [if_neg (by rintro (h | h | h); exact d1 h; exact h d2; exact h d3)] at hE7
   go_upto_region 9 with (fail)
   clear hcx hcc hb6 d1 d2 d3
   obtain ⟨k1,q,hk1,hk1l,hq0,hq1,hkq⟩:∃ (k1:Nat) (q:Cc),(0 < k → IntKind.i64.wrap ((k:Int) - 1) = (k1:Int)) ∧ (0 < k → k1 < H.ca.length) ∧ (0 < k → ∀ W,Below w6.heap.size w6 W → W.cell? ⟨bc,oc + k1 * 3,none⟩ = some (.int .i64 q.f)) ∧ (0 < k → ∀ W,Below w6.heap.size w6 W → W.cell? ⟨bc,oc + k1 * 3 + 1,none⟩ = some (.int .i64 q.i)) ∧ (0 < k → prevC H.ca k = some q):=by
    by_cases h0:0 < k
    ·have hkl1:k - 1 < H.ca.length:=by omega
     have hcell:∀ W,Below w6.heap.size w6 W → W.cell? ⟨bc,oc + (k - 1) * 3,none⟩ = some (.int .i64 H.ca[k - 1].f) ∧ W.cell? ⟨bc,oc + (k - 1) * 3 + 1,none⟩ = some (.int .i64 H.ca[k - 1].i):=fun W hb=>by
      obtain ⟨bc',oc',c',hac',hc',e1,e2,_⟩:=cc_at (h.below (below_next hbr6 hb)).ca.rd (k - 1) hkl1
      rw [List.getElem?_eq_getElem hkl1] at hc'
      cases hc'
      rw [hac] at hac'
      cases hac'
      exact ⟨e1,e2⟩
     refine ⟨k - 1,H.ca[k - 1],fun _ => ?_,fun _=>hkl1,fun _ W hb=>(hcell W hb).1,fun _ W hb=>(hcell W hb).2,fun _ => ?_⟩
     ·rw [show (k:Int) - 1 = ((k - 1:Nat):Int) by omega]
      exact IntWalk.i64_in _ (by omega)
     ·rw [hpv.out,if_neg (by omega),List.getElem?_eq_getElem hkl1]
    ·exact ⟨0,zCc,fun h'=>absurd h' h0,fun h'=>absurd h' h0,fun h'=>absurd h' h0,fun h'=>absurd h' h0,fun h'=>absurd h' h0⟩
   by_cases e1:k = 0
   ·have e1i:¬ (0:Int) < (k:Int):=by omega
    have hL0:Hid (Lk = 0):=Lib.hid (by rw [hE7.out,hpv.out,if_pos e1])
    refine wp_growP 44 [_,_,_,_,_,_,_,_,_,_,_,_,_,_,_,_,_,_,_,_,_,_,_,_,_,_,_,_,_,_,_,_,_,_,_,_,_,_,_,_,_,_,_,.v (.bool false)] (Gk rfl (Gb (.bool false) (by simp [go_sem,e1]) rfl rfl rfl rfl rfl (Gk rfl (Gk rfl (Gk rfl (Gk rfl (Gk rfl (Gk rfl (Gk rfl (Gk rfl (Gk rfl (Gk rfl (Gk rfl (Gk rfl (Gk rfl (Gk rfl (Gk rfl (Gk rfl (Gk rfl (Gk rfl (Gk rfl (Gk rfl (Gk rfl (Gk rfl (Gk rfl (Gk rfl (Gk rfl (Gk rfl (Gk rfl (Gk rfl (Gk rfl (Gk rfl (Gk rfl (Gk rfl (Gk rfl (Gk rfl (Gk rfl (Gk rfl (Gk rfl (Gk rfl (Gk rfl (Gk rfl (Gk rfl (Gk rfl (all_nil))))))))))))))))))))))))))))))))))))))))))))) (fun _=>rfl) rfl ?_
    intro y W7 hbW7 _
    have hbr7:=below_next hbr6 hbW7
    clear hbW7
    have hall:=Lib.hid (hnx.out hL0.out)
    clear hq0 hq1 hk1 hk1l cx6 hbk6
    go_wp2
    go_roundw
    case rel=>exact ⟨k + 1,by omega,by go_num,hbr7,hall⟩
    case measure=>simp [intOf]; omega
   have e1i:0 < k:=by omega
   replace hk1:=hk1 (by omega)
   replace hk1l:=hk1l (by omega)
   replace hq0:=hq0 (by omega)
   replace hq1:=hq1 (by omega)
   have hpq:=Lib.hid (hkq (by omega))
   clear hkq
   by_cases e2:c.f < q.f
   ·have hbad:Hid (c.f < q.f ∨ q.f = c.f ∧ c.i ≤ q.i):=Lib.hid (.inl e2)
    refine wp_growP 44 [_,_,_,_,_,_,_,_,_,_,_,_,_,_,_,_,_,_,_,_,_,_,_,_,_,_,_,_,_,_,_,_,_,_,_,_,_,_,_,_,_,_,_,.v (.bool true)] (Gk rfl (Gb (.bool true) (by simp [go_sem,e1i]) rfl rfl rfl rfl rfl (Gk rfl (Gk rfl (Gk rfl (Gf b 9 rfl rfl (Gl hbk6 (V:=.slice (some ⟨bc,oc,none⟩) H.ca.length H.cc) (by simp [mhC,hac]) rfl rfl rfl rfl (Gk rfl (Gb (.int .i64 (k1:Int)) (by simp [go_sem,hk1]) rfl rfl rfl rfl rfl (Gr (.pointer (some ⟨bc,oc + k1 * 3,none⟩)) (fun ρ y W hb hk=>(run_idx rfl (kx_at rfl hk) (kx_at rfl hk) hk1l Try.underlying37 cached_size)) rfl rfl (Gf bc (oc + k1 * 3) rfl rfl (Gc (.int .i64 q.f) (fun W hb=>by simp [hq0 _ hb]) rfl rfl rfl rfl (Gf gc 0 rfl rfl (Gl cx6 rfl rfl rfl rfl rfl (Gb (.bool true) (by simp [go_sem,e2]) rfl rfl rfl rfl rfl (Gk rfl (Gk rfl (Gk rfl (Gk rfl (Gk rfl (Gk rfl (Gk rfl (Gk rfl (Gk rfl (Gk rfl (Gk rfl (Gk rfl (Gk rfl (Gk rfl (Gk rfl (Gk rfl (Gk rfl (Gk rfl (Gk rfl (Gk rfl (Gk rfl (Gk rfl (Gk rfl (Gk rfl (Gk rfl (Gk rfl (Gk rfl (Gk rfl (Gk rfl (all_nil))))))))))))))))))))))))))))))))))))))))))))) (fun _=>rfl) rfl ?_
    intro y W7 hbW7 _
    have hbr7:=below_next hbr6 hbW7
    clear hbW7
    have hL2:Hid (Lk = 2):=Lib.hid (by rw [hE7.out,hpq.out]; simp only; rw [if_pos hbad.out])
    have hq:Hid (cachedE H.ma = 2):=Lib.hid (by rw [hfin.out (by rw [hL2.out]; decide),hL2.out])
    clear hq0 hq1 hk1 hk1l cx6 hbk6
    go_wp2
    go_ret
    rw [hq.out]
    exact ⟨rfl,hbr7⟩
   by_cases e3:q.f = c.f
   ·by_cases e4:c.i ≤ q.i
    ·have hbad:Hid (c.f < q.f ∨ q.f = c.f ∧ c.i ≤ q.i):=Lib.hid (.inr ⟨e3,e4⟩)
     refine wp_growP 44 [_,_,_,_,_,_,_,_,_,_,_,_,_,_,_,_,_,_,_,_,_,_,_,_,_,_,_,_,_,_,_,_,_,_,_,_,_,_,_,_,_,_,_,.v (.bool true)] (Gk rfl (Gb (.bool true) (by simp [go_sem,e1i]) rfl rfl rfl rfl rfl (Gk rfl (Gk rfl (Gk rfl (Gf b 9 rfl rfl (Gl hbk6 (V:=.slice (some ⟨bc,oc,none⟩) H.ca.length H.cc) (by simp [mhC,hac]) rfl rfl rfl rfl (Gk rfl (Gb (.int .i64 (k1:Int)) (by simp [go_sem,hk1]) rfl rfl rfl rfl rfl (Gr (.pointer (some ⟨bc,oc + k1 * 3,none⟩)) (fun ρ y W hb hk=>(run_idx rfl (kx_at rfl hk) (kx_at rfl hk) hk1l Try.underlying37 cached_size)) rfl rfl (Gf bc (oc + k1 * 3) rfl rfl (Gc (.int .i64 q.f) (fun W hb=>by simp [hq0 _ hb]) rfl rfl rfl rfl (Gf gc 0 rfl rfl (Gl cx6 rfl rfl rfl rfl rfl (Gb (.bool false) (by simp [go_sem,e2]) rfl rfl rfl rfl rfl (Gk rfl (Gk rfl (Gk rfl (Gf b 9 rfl rfl (Gl hbk6 (V:=.slice (some ⟨bc,oc,none⟩) H.ca.length H.cc) (by simp [mhC,hac]) rfl rfl rfl rfl (Gk rfl (Gb (.int .i64 (k1:Int)) (by simp [go_sem,hk1]) rfl rfl rfl rfl rfl (Gr (.pointer (some ⟨bc,oc + k1 * 3,none⟩)) (fun ρ y W hb hk=>(run_idx rfl (kx_at rfl hk) (kx_at rfl hk) hk1l Try.underlying37 cached_size)) rfl rfl (Gf bc (oc + k1 * 3) rfl rfl (Gc (.int .i64 q.f) (fun W hb=>by simp [hq0 _ hb]) rfl rfl rfl rfl (Gf gc 0 rfl rfl (Gl cx6 rfl rfl rfl rfl rfl (Gb (.bool true) (by simp [go_sem,e3]) rfl rfl rfl rfl rfl (Gk rfl (Gk rfl (Gk rfl (Gf b 9 rfl rfl (Gl hbk6 (V:=.slice (some ⟨bc,oc,none⟩) H.ca.length H.cc) (by simp [mhC,hac]) rfl rfl rfl rfl (Gk rfl (Gb (.int .i64 (k1:Int)) (by simp [go_sem,hk1]) rfl rfl rfl rfl rfl (Gr (.pointer (some ⟨bc,oc + k1 * 3,none⟩)) (fun ρ y W hb hk=>(run_idx rfl (kx_at rfl hk) (kx_at rfl hk) hk1l Try.underlying37 cached_size)) rfl rfl (Gf bc (oc + k1 * 3 + 1) rfl rfl (Gc (.int .i64 q.i) (fun W hb=>by simp [hq1 _ hb]) rfl rfl rfl rfl (Gf gc 1 rfl rfl (Gl cx6 rfl rfl rfl rfl rfl (Gb (.bool true) (by simp [go_sem,e4]) rfl rfl rfl rfl rfl (Gk rfl (Gk rfl (Gk rfl (all_nil))))))))))))))))))))))))))))))))))))))))))))) (fun _=>rfl) rfl ?_
     intro y W7 hbW7 _
     have hbr7:=below_next hbr6 hbW7
     clear hbW7
     have hL2:Hid (Lk = 2):=Lib.hid (by rw [hE7.out,hpq.out]; simp only; rw [if_pos hbad.out])
     have hq:Hid (cachedE H.ma = 2):=Lib.hid (by rw [hfin.out (by rw [hL2.out]; decide),hL2.out])
     clear hq0 hq1 hk1 hk1l cx6 hbk6
     go_wp2
     go_ret
     rw [hq.out]
     exact ⟨rfl,hbr7⟩
    ·have hL0:Hid (Lk = 0):=Lib.hid (by rw [hE7.out,hpq.out]; simp only; rw [if_neg (by omega)])
     refine wp_growP 44 [_,_,_,_,_,_,_,_,_,_,_,_,_,_,_,_,_,_,_,_,_,_,_,_,_,_,_,_,_,_,_,_,_,_,_,_,_,_,_,_,_,_,_,.v (.bool false)] (Gk rfl (Gb (.bool true) (by simp [go_sem,e1i]) rfl rfl rfl rfl rfl (Gk rfl (Gk rfl (Gk rfl (Gf b 9 rfl rfl (Gl hbk6 (V:=.slice (some ⟨bc,oc,none⟩) H.ca.length H.cc) (by simp [mhC,hac]) rfl rfl rfl rfl (Gk rfl (Gb (.int .i64 (k1:Int)) (by simp [go_sem,hk1]) rfl rfl rfl rfl rfl (Gr (.pointer (some ⟨bc,oc + k1 * 3,none⟩)) (fun ρ y W hb hk=>(run_idx rfl (kx_at rfl hk) (kx_at rfl hk) hk1l Try.underlying37 cached_size)) rfl rfl (Gf bc (oc + k1 * 3) rfl rfl (Gc (.int .i64 q.f) (fun W hb=>by simp [hq0 _ hb]) rfl rfl rfl rfl (Gf gc 0 rfl rfl (Gl cx6 rfl rfl rfl rfl rfl (Gb (.bool false) (by simp [go_sem,e2]) rfl rfl rfl rfl rfl (Gk rfl (Gk rfl (Gk rfl (Gf b 9 rfl rfl (Gl hbk6 (V:=.slice (some ⟨bc,oc,none⟩) H.ca.length H.cc) (by simp [mhC,hac]) rfl rfl rfl rfl (Gk rfl (Gb (.int .i64 (k1:Int)) (by simp [go_sem,hk1]) rfl rfl rfl rfl rfl (Gr (.pointer (some ⟨bc,oc + k1 * 3,none⟩)) (fun ρ y W hb hk=>(run_idx rfl (kx_at rfl hk) (kx_at rfl hk) hk1l Try.underlying37 cached_size)) rfl rfl (Gf bc (oc + k1 * 3) rfl rfl (Gc (.int .i64 q.f) (fun W hb=>by simp [hq0 _ hb]) rfl rfl rfl rfl (Gf gc 0 rfl rfl (Gl cx6 rfl rfl rfl rfl rfl (Gb (.bool true) (by simp [go_sem,e3]) rfl rfl rfl rfl rfl (Gk rfl (Gk rfl (Gk rfl (Gf b 9 rfl rfl (Gl hbk6 (V:=.slice (some ⟨bc,oc,none⟩) H.ca.length H.cc) (by simp [mhC,hac]) rfl rfl rfl rfl (Gk rfl (Gb (.int .i64 (k1:Int)) (by simp [go_sem,hk1]) rfl rfl rfl rfl rfl (Gr (.pointer (some ⟨bc,oc + k1 * 3,none⟩)) (fun ρ y W hb hk=>(run_idx rfl (kx_at rfl hk) (kx_at rfl hk) hk1l Try.underlying37 cached_size)) rfl rfl (Gf bc (oc + k1 * 3 + 1) rfl rfl (Gc (.int .i64 q.i) (fun W hb=>by simp [hq1 _ hb]) rfl rfl rfl rfl (Gf gc 1 rfl rfl (Gl cx6 rfl rfl rfl rfl rfl (Gb (.bool false) (by simp [go_sem,e4]) rfl rfl rfl rfl rfl (Gk rfl (Gk rfl (Gk rfl (all_nil))))))))))))))))))))))))))))))))))))))))))))) (fun _=>rfl) rfl ?_
     intro y W7 hbW7 _
     have hbr7:=below_next hbr6 hbW7
     clear hbW7
     have hall:=Lib.hid (hnx.out hL0.out)
     clear hq0 hq1 hk1 hk1l cx6 hbk6
     go_wp2
     go_roundw
     case rel=>exact ⟨k + 1,by omega,by go_num,hbr7,hall⟩
     case measure=>simp [intOf]; omega
   ·have hL0:Hid (Lk = 0):=Lib.hid (by rw [hE7.out,hpq.out]; simp only; rw [if_neg (by omega)])
    refine wp_growP 44 [_,_,_,_,_,_,_,_,_,_,_,_,_,_,_,_,_,_,_,_,_,_,_,_,_,_,_,_,_,_,_,_,_,_,_,_,_,_,_,_,_,_,_,.v (.bool false)] (Gk rfl (Gb (.bool true) (by simp [go_sem,e1i]) rfl rfl rfl rfl rfl (Gk rfl (Gk rfl (Gk rfl (Gf b 9 rfl rfl (Gl hbk6 (V:=.slice (some ⟨bc,oc,none⟩) H.ca.length H.cc) (by simp [mhC,hac]) rfl rfl rfl rfl (Gk rfl (Gb (.int .i64 (k1:Int)) (by simp [go_sem,hk1]) rfl rfl rfl rfl rfl (Gr (.pointer (some ⟨bc,oc + k1 * 3,none⟩)) (fun ρ y W hb hk=>(run_idx rfl (kx_at rfl hk) (kx_at rfl hk) hk1l Try.underlying37 cached_size)) rfl rfl (Gf bc (oc + k1 * 3) rfl rfl (Gc (.int .i64 q.f) (fun W hb=>by simp [hq0 _ hb]) rfl rfl rfl rfl (Gf gc 0 rfl rfl (Gl cx6 rfl rfl rfl rfl rfl (Gb (.bool false) (by simp [go_sem,e2]) rfl rfl rfl rfl rfl (Gk rfl (Gk rfl (Gk rfl (Gf b 9 rfl rfl (Gl hbk6 (V:=.slice (some ⟨bc,oc,none⟩) H.ca.length H.cc) (by simp [mhC,hac]) rfl rfl rfl rfl (Gk rfl (Gb (.int .i64 (k1:Int)) (by simp [go_sem,hk1]) rfl rfl rfl rfl rfl (Gr (.pointer (some ⟨bc,oc + k1 * 3,none⟩)) (fun ρ y W hb hk=>(run_idx rfl (kx_at rfl hk) (kx_at rfl hk) hk1l Try.underlying37 cached_size)) rfl rfl (Gf bc (oc + k1 * 3) rfl rfl (Gc (.int .i64 q.f) (fun W hb=>by simp [hq0 _ hb]) rfl rfl rfl rfl (Gf gc 0 rfl rfl (Gl cx6 rfl rfl rfl rfl rfl (Gb (.bool false) (by simp [go_sem,e3]) rfl rfl rfl rfl rfl (Gk rfl (Gk rfl (Gk rfl (Gk rfl (Gk rfl (Gk rfl (Gk rfl (Gk rfl (Gk rfl (Gk rfl (Gk rfl (Gk rfl (Gk rfl (Gk rfl (Gk rfl (Gk rfl (all_nil))))))))))))))))))))))))))))))))))))))))))))) (fun _=>rfl) rfl ?_
    intro y W7 hbW7 _
    have hbr7:=below_next hbr6 hbW7
    clear hbW7
    have hall:=Lib.hid (hnx.out hL0.out)
    clear hq0 hq1 hk1 hk1l cx6 hbk6
    go_wp2
    go_roundw
    case rel=>exact ⟨k + 1,by omega,by go_num,hbr7,hall⟩
    case measure=>simp [intOf]; omega
  ·have hki:¬ (k:Int) < (H.ca.length:Int):=by omega
   have hq:Hid (cachedE H.ma = 0):=Lib.hid (by rw [hLE.out,firstE_none fun i hi=>hz.out i hi (by rw [hLl.out] at hi; omega)])
   clear hz
   go_wp2
   go_ret
   rw [hq.out]
   exact ⟨rfl,hbr⟩
end Go.Proofs.Ytkjobhcnlppcnaa