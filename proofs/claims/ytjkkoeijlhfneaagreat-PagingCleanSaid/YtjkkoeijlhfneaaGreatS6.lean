import Derived.Test.YtjkkoeijlhfneaaGreatS5
import Derived.Lib.AppendZerosOnto
import Derived.Lib.Overlaps
import Derived.Lib.SliceRun
import Derived.Laws.Externs
import Derived.Laws.IdiomCopy
import Derived.Deep.RegionLaw
import Derived.Deep.LoopGhost
import Derived.BigRegion
set_option linter.unusedSimpArgs false
set_option linter.unusedVariables false
set_option maxHeartbeats 4000000
set_option maxRecDepth 100000
namespace Go.Proofs.YtjkkoeijlhfneaaGreat
open _root_.Go.Proofs.Tryz
open Go.RowKit Go.Maps Pw
variable {B B' b c cl ct f g g' gd gf gs gw gx i k n n' off p q sz:Nat} {E:En} {F:PF} {H:MH} {L:Nat → Bool} {P:Program} {Q:Exit → Act → World → Prop} {S S' S0:MW} {T e e':TypeId} {W W' W0 w w' w0 w1 w2:World} {a al as0:Option Addr} {bl:List Page} {cs cur z zf zp zs:Array Value} {fi0:List PF} {fs:List Fi} {m m' m1:Ma} {o op:Oper} {old vs xs:List Value} {ops:Array Oper} {s:St} {v v' v0:Value} {x:Operand} {y:Nat → Value} {ρ:Operand → Value}
def za (S:MW) (B b:Nat) (w:World) (P:PS):(Nat→Bool)→(Nat→Value)→World→Prop:=fun L y W=>
 (∀k,10≤k→k<16→L (k+1)=true→L k=true)∧(L 16=true→L 5=true) ∧
 (L 16=false→dz W B b S∧MS w b S W S) ∧
 (L 15=true→L 16=false→∃a e,y 15 = .slice a 1 e∧nR W a e 1 (nZ P)) ∧
 (L 16=true→∃w1,dz w1 B b S∧MS w b S w1 S∧w1.grownBy W (Value.slice S.H.ap S.H.sp.length S.H.cp).ownBlock∧Own W B 55 10 (y 16) (S.H.sp.length+1) (S.H.sp.flatMap nZ++nZ P)∧lc w1 (.slice S.H.ap S.H.sp.length S.H.cp) (y 16))
theorem Dy {row:Option Nat} (hg:w.grownBy w1 row) (hb:Below w1.heap.size w1 w2):w.grownBy w2 row:=
 ⟨hb.os.trans hg.os,hb.tape.trans hg.tape,hb.output.trans hg.output,Nat.le_trans hg.size hb.size,fun k hk hn=>(hb.block k (Nat.lt_of_lt_of_le hk hg.size)).trans (hg.block k hk hn)⟩
theorem fI {P:PS}:∀L y W W',Below W.heap.size W W'→za S B b w P L y W→za S B b w P L y W':=
 fun _ _ _ _ hb ⟨h1,h2,h3,h4,h5⟩=>⟨h1,h2,fun e=>⟨(h3 e).1.below hb,(h3 e).2.below hb⟩,fun e1 e2=>by
  obtain⟨a,e,k1,k2⟩:=h4 e1 e2
  exact⟨a,e,k1,k2.below hb⟩,fun e=>by
  obtain⟨w1,k1,k2,k3,k4,k5⟩:=h5 e
  exact⟨w1,k1,k2,Dy k3 hb,k4.below hb,k5⟩⟩
theorem gU {P:PS} (hi:i≠15∧i≠16) (hd:∀k,10≤k→k<16→k+1=i→L k=true) (h:za S B b w P L y W):za S B b w P (bK L i) (bZ y i v) W:=by
 obtain⟨h1,h2,h3,h4,h5⟩:=h
 have e15:bK L i 15=L 15:=by unfold bK;rw[if_neg (fun e=>hi.1 e.symm)]
 have e16:bK L i 16=L 16:=by unfold bK;rw[if_neg (fun e=>hi.2 e.symm)]
 have y15:bZ y i v 15=y 15:=by unfold bZ;rw[if_neg (fun e=>hi.1 e.symm)]
 have y16:bZ y i v 16=y 16:=by unfold bZ;rw[if_neg (fun e=>hi.2 e.symm)]
 have up:∀k,L k=true→bK L i k=true:=fun k hk=>by unfold bK;split<;>simp[hk]
 refine⟨fun k k1 k2 k3 => ?_,fun e=>up 5 (h2 (by rw[←e16];exact e)),by rw[e16];exact h3,by rw[e15,e16,y15];exact h4,by rw[e16,y16];exact h5⟩
 by_cases e:k+1=i
 ·exact up k (hd k k1 k2 e)
 ·refine up k (h1 k k1 k2 ?_)
  unfold bK at k3
  rw[if_neg e] at k3
  exact k3
theorem NF {P:PS} {e:Nat} (hb:Below W.heap.size W W') (h14:L 14=true) (h:za S B b w P L y W) (hr:nR W' a e 1 (nZ P)):za S B b w P (bK L 15) (bZ y 15 (.slice a 1 e)) W':=by
 obtain⟨h1,h2,h3,h4,h5⟩:=fI _ _ _ _ hb h
 have up:∀k,L k=true→bK L 15 k=true:=fun k hk=>by unfold bK;split<;>simp[hk]
 refine⟨fun k k1 k2 k3 => ?_,fun e=>h2 e,h3,fun _ _=>⟨a,e,rfl,hr⟩,h5⟩
 by_cases e:k+1=15
 ·obtain rfl:k=14:=by omega
  exact up 14 h14
 ·refine up k (h1 k k1 k2 ?_)
  unfold bK at k3
  rw[if_neg e] at k3
  exact k3
theorem Oe {P:PS} (h15:L 15=true) (h5' : L 5=true) (h16:L 16=false) (h:za S B b w P L y W) (hg:W.grownBy W' (Value.slice S.H.ap S.H.sp.length S.H.cp).ownBlock)
 (ho:Own W' B 55 10 v (S.H.sp.length+1) (S.H.sp.flatMap nZ++nZ P)) (hs:lc W (.slice S.H.ap S.H.sp.length S.H.cp) v):za S B b w P (bK L 16) (bZ y 16 v) W':=by
 obtain⟨h1,h2,h3,h4,h5⟩:=h
 have up:∀k,L k=true→bK L 16 k=true:=fun k hk=>by unfold bK;split<;>simp[hk]
 refine⟨fun k k1 k2 k3 => ?_,fun _=>h5',fun e=>(by cases e),fun _ e=>(by cases e),fun _=>⟨W,(h3 h16).1,(h3 h16).2,hg,ho,hs⟩⟩
 by_cases e:k+1=16
 ·obtain rfl:k=15:=by omega
  exact up 15 h15
 ·refine up k (h1 k k1 k2 ?_)
  unfold bK at k3
  rw[if_neg e] at k3
  exact k3
theorem wS {P:PS} (h:za S B b w P L y W) (hi:L i=false) (hk:i=5∨(10≤i∧i≤16)):dz W B b S∧MS w b S W S:=by
 refine h.2.2.1 ?_
 cases e:L 16 with
 | false=>rfl
 | true=>
  exfalso
  rcases hk with rfl|⟨k1,k2⟩
  ·rw[h.2.1 e] at hi;cases hi
  ·have:∀d,d≤6→L (16-d)=true:=by
    intro d
    induction d with
    | zero=>intro _;exact e
    | succ d ih=>intro hd;exact h.1 (16-(d+1)) (by omega) (by omega) (by rw[show 16-(d+1)+1=16-d by omega];exact ih (by omega))
   have h9:=this (16-i) (by omega)
   rw[show 16-(16-i)=i by omega,hi] at h9
   cases h9
def PZ (S:MW) (B b:Nat) (w:World) (r:Ending) (w' : World):Prop:=∃S',r = .returned (.tuple #[])∧dz w' B b S'∧MS w b S w' S'∧More S S'
theorem Oa (t:List En) (k:Nat) (hk:k<64):(tL t).toArray.extract (k*3) (k*3+3)=iM (t.getD k zEn):=by
 apply Array.ext_getElem?
 intro j
 rw[Array.getElem?_extract]
 have hs:(tL t).toArray.size=192:=by simp[sH]
 by_cases hj:j<3
 ·rw[if_pos (by omega)]
  have:=Gg t k j hk hj
  simpa[jT] using this
 ·rw[if_neg (by omega),Array.getElem?_eq_none (by show 3≤j;omega)]
theorem entry_size3:(Tryz.prog.info? 89).map (·.size)=some 3:=by kernel_rfl
theorem NH (t:List En) (k:Nat) (hk:k<64) (e:En) (he:t.getD k zEn=e) (w:World):(Instr.index 90 (.agg (tL t).toArray) (.int .i64 k)).run Tryz.prog w = .ok (.agg (iM e)) w:=
 qK underlying90 underlying89 rfl entry_size3 _ k _ hk (by rw[←he];exact Oa t k hk) _ w
theorem nS (ty:TypeId) (x y:Operand) (ho:op.op = .store ty x y)
 (b o:Nat) (v:Value) (cells:List Value) (hx:ρ x = .pointer (some ⟨b,o,none⟩)) (hy:ρ y=v) (hc:v.cells.toList=cells) (cur:Array Value) (T:TypeId) (hg:aD w b cur T)
 (hfit:o+cells.length≤cur.size) (hi:(P.info? ty).map (·.size)=some cells.length) (h1:∀u∈cells,u.oneCell' = true):(execOp ρ op).run P w = .ok .skip (w.setCells b o cells):=by
 have hst:=run_storeCells_cells (P:=P) b o cells 0 w
  (fun j hj=>by rw[Nat.add_zero,hg.cell];simp[show o+j<cur.size by omega]) (fun j hj=>hg.free _) h1
 simp only[Nat.add_zero] at hst
 have hsv:(storeVar ty ⟨b,o,none⟩ v).run P w = .ok () (w.setCells b o cells):=by
  cases hq:P.info? ty with
  | none=>simp[hq] at hi
  | some i=>
   have hs:i.size=cells.length:=by simpa[hq] using hi
   have hv:v.cells.size=cells.length:=by rw[←hc];simp
   simp[storeVar,Go.sizeOf,typeInfo,hq,hs,hv,hc,hst]
 unfold execOp
 simp only[ho,hx,hy,Instr.storeAt,Instr.sureAddr,Sem.run_bind,Sem.run_pure,Result.andThen_ok,hsv]
theorem kv {l:List jJ} {J:(Nat→Bool)→(Nat→Value)→World→Prop} (hw:Region.wanted o (eG ρ ops)=true) (hrun:(execOp ρ o).run P w = .ok .skip w')
 (hJ:J (bK L i) (bZ y i undef) w') (hR:rl l i undef w') :
  if Region.wanted o (eG ρ ops)=true then cK P o ρ w (fun v w'=>J (bK L i) (bZ y i v) w'∧rl l i v w') else J (bK L i) (bZ y i undef) w∧rl l i undef w:=by
 rw[if_pos hw]
 unfold cK
 rw[hrun]
 exact⟨hJ,hR⟩
def Ec (S0 S S' : MW) (B b:Nat) (w:World) (gx gf:Nat) (e:En) (F:Array Value):(Nat→Bool)→(Nat→Value)→World→Prop:=fun L _ W=>
 (aD W gx (iM e) 89∧aD W gf F 110)∧(L 14=false→dz W B b S∧MS w b S0 W S)∧(L 14=true→dz W B b S'∧MS w b S0 W S')
theorem aJ {e:En} {F:Array Value}:∀L y W W',Below W.heap.size W W'→Ec S0 S S' B b w gx gf e F L y W→Ec S0 S S' B b w gx gf e F L y W':=
 fun _ _ _ _ hb ⟨h1,h2,h3⟩=>⟨⟨h1.1.ext hb,h1.2.ext hb⟩,fun e=>⟨(h2 e).1.below hb,(h2 e).2.below hb⟩,fun e=>⟨(h3 e).1.below hb,(h3 e).2.below hb⟩⟩
theorem nH {e:En} {F:Array Value} (h:Ec S0 S S' B b w gx gf e F L y W) (hk:(fD S')[12]?=(fD S)[12]?):W.cell? ⟨b,12,none⟩=(fD S)[12]?:=by
 cases hL:L 14 with
 | false=>exact (h.2.1 hL).1.blk.cell 12
 | true=>rw[←hk];exact (h.2.2 hL).1.blk.cell 12
theorem nN {T:List (List En)} (ok:uO m T) (hl:m.sp.length=2) {x:En} (hn:n<64) (hx:eT x=0) (q j:Nat) (hj:j≠n):dJ (setL (setL T 0 n x) 1 n x) q j=dJ T q j:=by
 rw[qM (ok.set (p:=0) (by omega) hx) (by omega) hn,if_neg (fun h=>hj h.2),qM ok (by omega) hn,if_neg (fun h=>hj h.2)]
theorem CR {y:Operand} {k:IntKind} (ho:o.op = .indexAddr 30 x y) (hx:ρ x = .slice (some ⟨b,off,none⟩) n c) (hy:ρ y = .int k (i:Int)) (hi:i<n) :
  (execOp ρ o).run Tryz.prog w = .ok (.value (.pointer (some ⟨b,off+i,none⟩))) w:=by
 have:=bB (P:=Tryz.prog) (w:=w) ho hx hy hi underlying30 (show (Tryz.prog.info? 3).map (·.size)=some 1 by kernel_rfl)
 rw[this,Nat.mul_one]
theorem dz.locE (h:dz w B b S) (hk:aD w g cs 89) (hn:¬jO b S g) (hsp:∀p∈S.H.sp,∀k v,k<8→(mo p.ts)[k]?=some v→v.ownBlock≠some g) (hgB:B≤g) (hg:w.grownBy w' (some g)):dz w' B b S:=by
 have hne:∀ {a:Option Addr},oB a∈eO S→∀n c g',(Value.slice a n c).ownBlock=some g'→some g≠some g':=fun hm n c g' he e=>by
  cases e
  rw[jv] at he
  exact hn (.inr (by rw[←he];exact hm))
 exact⟨h.blk.grown hg (fun e=>hn (.inl (Option.some.inj e))),h.ge,⟨h.ma.fr.grown hg (hne (by simp[eO]) _ _),h.ma.sl.grown hg (hne (by simp[eO]) _ _),⟨h.ma.sw.b.grown hg (hne (by simp[eO]) _ _),h.ma.sw.q.grown hg (fun g' he=>by rw[h.n3] at he;cases he)⟩,⟨h.ma.dk.b.grown hg (hne (by simp[eO]) _ _),h.ma.dk.q.grown hg (hne (by simp[eO]) _ _)⟩,
  ⟨h.ma.st.own.grown hg (hne (by simp[eO]) _ _),fun i p hp=>ak (h.ma.st.each i p hp) hk (by decide) hg,h.ma.st.apart⟩,h.ma.ca.grown hg (hne (by simp[eO]) _ _),h.ma.sp.grown hg (hne (by simp[eO]) _ _),fun p hp=>⟨ak (h.ma.ps p hp).1 hk (by decide) hg,⟨(h.ma.ps p hp).2.sz,fun k hk8=>by
   obtain⟨v,h1,h2⟩:=(h.ma.ps p hp).2.own k hk8
   exact⟨v,h1,h2.grown hg (fun g' he e=>by cases e;exact hsp p hp k v hk8 h1 he)⟩,(h.ma.ps p hp).2.apart⟩⟩,h.ma.c64⟩,
  h.tt.grown hg (hne (by simp[eO]) _ _),h.rd.keep h.ra h.bs hg hgB,h.ra,h.n1,h.n2,h.n3⟩
theorem dz.newE (h:dz w B b S) {x:Nat} (hx:w.heap.size≤x):∀p∈S.H.sp,∀k v,k<8→(mo p.ts)[k]?=some v→v.ownBlock≠some x:=fun p hp k v hk hv he=>by
 obtain⟨v',h1,h2⟩:=(h.ma.ps p hp).2.own k hk
 rw[hv] at h1
 cases h1
 have:=AR h2 x he
 omega
theorem Jt (S:MW) (B b:Nat) (w:World) (h:dz w B b S) (hd:Bd S.H.ma S.T) (hf:FV S) (hl:S.H.sp.length=1) :
  Calls Tryz.prog 34 #[.pointer (some ⟨b,0,none⟩)] w (PZ S B b w):=by
 obtain⟨p0,hsp⟩:=List.length_eq_one_iff.1 hl
 have hd':=Lib.hid hd
 have hf':=Lib.hid hf
 have hBs:=Lib.hid h.bs
 have hsp':=Lib.hid hsp
 obtain⟨gp,op,cap,cur,hv,hgB,hgk,hgs,hgc,hgw⟩:=h.ma.sp.put nK (by decide) 0 (by rw[hl];decide)
 have hap:S.H.ap=some ⟨gp,op,none⟩:=(Value.slice.inj hv).1
 have hcell:∀W,dz W B b S→W.cell? ⟨gp,op+1,none⟩=some (.slice p0.aa p0.ar.length p0.ac):=fun W hW=>by
  obtain⟨g2,o2,_,_,hv2,_,_,_,hc2,_⟩:=hW.ma.sp.put nK (by decide) 0 (by rw[hl];decide)
  have e9:(some (⟨g2,o2,none⟩:Addr))=some ⟨gp,op,none⟩:=(Value.slice.inj hv2).1.symm.trans hap
  cases e9
  have e0:S.H.sp[0]'(by rw[hl];decide)=p0:=by simp[hsp]
  rw[e0] at hc2
  have:=hc2 1 _ rfl
  simpa using this
 clear hd hf hsp hv hgk hgs hgc hgw
 go_enter func34,ntmps34
 go_upto_region 0 with (fail)
 refine dW 20 [_,_,_,_,_,.v (.slice (some ⟨gp,op,none⟩) 1 S.H.cp),_,_,_,_,.v (.slice (some ⟨gp,op,none⟩) 1 S.H.cp),_,_,.v (.slice p0.aa p0.ar.length p0.ac),.v (.agg (tu ⟨true,p0.aa,p0.ac,p0.ar,nTs,zTb⟩)),.r 15 ((aR fun _=>True)),.r 16 ((aR fun _=>True)),_,_,_] (za S B b w ⟨true,p0.aa,p0.ac,p0.ar,nTs,zTb⟩) fI (fun _=>⟨fun k _ _ e=>(by cases e),fun e=>(by cases e),fun _=>⟨h,MS.refl _ _ _⟩,fun e=>(by cases e),fun e=>(by cases e)⟩) (Qk fI rfl (Qk fI rfl (Qk fI rfl (Qf fI b 1 rfl rfl (Qf fI b 11 rfl rfl (ae ?_ (Qk fI rfl (Qk fI rfl (Qf fI b 1 rfl rfl (Qf fI b 11 rfl rfl (ae ?_ (Qr fI (.pointer (some ⟨gp,op,none⟩)) (fun ρ y W hKn=>(bB (i:=0) rfl (aF rfl hKn) (aF rfl hKn) (by decide) underlying39 space_size)) rfl rfl (Qf fI gp (op+1) rfl rfl (ae ?_ (ae ?_ (ae ?_ (ae ?_ (Qk fI rfl (Qf fI b 1 rfl rfl (Qf fI b 11 rfl rfl (aB) (fun _ _ _ _ hLd h=>gU (by decide) (by intro k h1 h2 e;first | omega | (obtain rfl:=Nat.succ.inj e;exact hLd _ rfl)) h)) (fun _ _ _ _ hLd h=>gU (by decide) (by intro k h1 h2 e;first | omega | (obtain rfl:=Nat.succ.inj e;exact hLd _ rfl)) h)) (fun _ _ _ _ hLd h=>gU (by decide) (by intro k h1 h2 e;first | omega | (obtain rfl:=Nat.succ.inj e;exact hLd _ rfl)) h)))))) (fun _ _ _ _ hLd h=>gU (by decide) (by intro k h1 h2 e;first | omega | (obtain rfl:=Nat.succ.inj e;exact hLd _ rfl)) h)) (fun _ _ _ _ hLd h=>gU (by decide) (by intro k h1 h2 e;first | omega | (obtain rfl:=Nat.succ.inj e;exact hLd _ rfl)) h))) (fun _ _ _ _ hLd h=>gU (by decide) (by intro k h1 h2 e;first | omega | (obtain rfl:=Nat.succ.inj e;exact hLd _ rfl)) h)) (fun _ _ _ _ hLd h=>gU (by decide) (by intro k h1 h2 e;first | omega | (obtain rfl:=Nat.succ.inj e;exact hLd _ rfl)) h)) (fun _ _ _ _ hLd h=>gU (by decide) (by intro k h1 h2 e;first | omega | (obtain rfl:=Nat.succ.inj e;exact hLd _ rfl)) h)) (fun _ _ _ _ hLd h=>gU (by decide) (by intro k h1 h2 e;first | omega | (obtain rfl:=Nat.succ.inj e;exact hLd _ rfl)) h))) (fun _ _ _ _ hLd h=>gU (by decide) (by intro k h1 h2 e;first | omega | (obtain rfl:=Nat.succ.inj e;exact hLd _ rfl)) h)) (fun _ _ _ _ hLd h=>gU (by decide) (by intro k h1 h2 e;first | omega | (obtain rfl:=Nat.succ.inj e;exact hLd _ rfl)) h)) (fun _ _ _ _ hLd h=>gU (by decide) (by intro k h1 h2 e;first | omega | (obtain rfl:=Nat.succ.inj e;exact hLd _ rfl)) h)) (fun _ _ _ _ hLd h=>gU (by decide) (by intro k h1 h2 e;first | omega | (obtain rfl:=Nat.succ.inj e;exact hLd _ rfl)) h)) (fun _ _ _ _ hLd h=>gU (by decide) (by intro k h1 h2 e;first | omega | (obtain rfl:=Nat.succ.inj e;exact hLd _ rfl)) h)) (fun _=>rfl) rfl ?_
 ·intro ρ y W L hw hn hLi hLd hb hd
  refine bS fI (fun _ _ h=>gU (by decide) (by intro k h1 h2 e;first | omega | (obtain rfl:=Nat.succ.inj e;exact hLd _ rfl)) h) hb ?_
  have E9:=hw 9 4 rfl
  have h4:y 4=_:=hd 4 rfl
  have hm:=(wS hb hLi (by decide)).1
  refine aj (.slice (some ⟨gp,op,none⟩) 1 S.H.cp) (ah rfl) (by simp[execOp,go_sem,E9,h4,hm.blk.cell,fD,hap,hl]) rfl
 ·intro ρ y W L hw hn hLi hLd hb hd
  refine bS fI (fun _ _ h=>gU (by decide) (by intro k h1 h2 e;first | omega | (obtain rfl:=Nat.succ.inj e;exact hLd _ rfl)) h) hb ?_
  have E14:=hw 14 9 rfl
  have h9:y 9=_:=hd 9 rfl
  have hm:=(wS hb hLi (by decide)).1
  refine aj (.slice (some ⟨gp,op,none⟩) 1 S.H.cp) (ah rfl) (by simp[execOp,go_sem,E14,h9,hm.blk.cell,fD,hap,hl]) rfl
 ·intro ρ y W L hw hn hLi hLd hb hd
  refine bS fI (fun _ _ h=>gU (by decide) (by intro k h1 h2 e;first | omega | (obtain rfl:=Nat.succ.inj e;exact hLd _ rfl)) h) hb ?_
  have E17:=hw 17 12 rfl
  have h12:y 12=_:=hd 12 rfl
  have hm:=(wS hb hLi (by decide)).1
  refine aj (.slice p0.aa p0.ar.length p0.ac) (ah rfl) (by simp[execOp,go_sem,E17,h12,hcell W hm]) rfl
 ·intro ρ y W L hw hn hLi hLd hb hd
  refine bS fI (fun _ _ h=>gU (by decide) (by intro k h1 h2 e;first | omega | (obtain rfl:=Nat.succ.inj e;exact hLd _ rfl)) h) hb ?_
  have E18:=hw 18 13 rfl
  have h13:y 13=_:=hd 13 rfl
  have EC:∀v,ρ (.const v)=v:=fun v=>hn (.const v) trivial
  refine aj (.agg (tu ⟨true,p0.aa,p0.ac,p0.ar,nTs,zTb⟩)) (ah rfl) (by simp[execOp,go_sem,E18,h13,EC,tu,nTs]) rfl
 ·intro ρ y W L hw hn hLi hLd hb hd;have E19:=hw 19 14 rfl;have h14:y 14=_:=hd 14 rfl
  refine bO (.slice (some ⟨W.heap.size,0,none⟩) 1 1) (ah rfl) ?_ (NF (W':=W.alloc (.cells (tu ⟨true,p0.aa,p0.ac,p0.ar,nTs,zTb⟩) 55)) ((Below.refl _ _).alloc (Nat.le_refl _) _) (hLd 14 rfl) hb ⟨Nat.le_refl _,by unfold maxLen;omega,fun e=>(by cases e),dA.new _ _ _⟩) trivial
  simp[execOp,go_sem,E19.trans h14,tu]
 ·intro ρ y W L hw hn hLi hLd hb hd;have E10:=hw 10 5 rfl;have h5:y 5=_:=hd 5 rfl;have E20:=hw 20 15 rfl;have h15:=hd 15 rfl
  have hm:=(wS hb hLi (by decide)).1
  obtain⟨a,e,hx1,hx2⟩:=hb.2.2.2.1 (hLd 15 rfl) hLi
  have hpv:Own W B 55 10 (.slice S.H.ap S.H.sp.length S.H.cp) S.H.sp.length (S.H.sp.flatMap nZ):=hm.ma.sp
  refine fu (ah rfl) (jq _ _ _ rfl B 55 _ 10 224 underlying39 space_info rfl (by decide) (.slice S.H.ap S.H.sp.length S.H.cp) S.H.sp.length _ (by rw[hl,hap];exact E10.trans h5) hpv a 1 e _ (E20.trans hx1) hx2.nl hx2.le rfl hx2.rd (bv (by simp[tu,nTs,Value.oneCell'])) (by unfold maxLen;omega) (by omega) hm.bs) (fun v W1 h=>Oe (hLd 15 rfl) (hLd 5 rfl) hLi hb h.2.1 h.1 h.2.2) (fun _ _ _=>trivial)
 intro y W1 hbW1 hRW1
 have hy15:((aR fun _=>True)).r (y 15) W1:=hRW1 15 (by decide)
 have hy16:((aR fun _=>True)).r (y 16) W1:=hRW1 16 (by decide)
 clear hRW1
 obtain⟨w1,hm1,hs1,hg2,own2,hsn2⟩:=hbW1.2.2.2.2 rfl
 clear hbW1 h
 have hownP1:Own w1 B 55 10 (.slice S.H.ap S.H.sp.length S.H.cp) S.H.sp.length (S.H.sp.flatMap nZ):=hm1.ma.sp
 have hp0m:p0∈S.H.sp:=by rw[hsp'.out];exact List.mem_singleton.2 rfl
 have hbk2:=tY hownP1 hg2 hm1.blk (by decide)
 have hps2:∀p∈S.H.sp++[(⟨true,p0.aa,p0.ac,p0.ar,nTs,zTb⟩:PS)],Own W1 B 99 7 (.slice p.aa p.ar.length p.ac) p.ar.length (p.ar.flatMap jU)∧mD W1 B (mo p.ts) p.tb:=fun p hp=>by
  rcases List.mem_append.1 hp with hp|hp
  ·exact⟨fU hownP1 hg2 (hm1.ma.ps p hp).1 (by decide),wX hownP1 hg2 (hm1.ma.ps p hp).2⟩
  ·rw[List.mem_singleton.1 hp]
   exact⟨fU hownP1 hg2 (hm1.ma.ps p0 hp0m).1 (by decide),ww _ _⟩
 obtain⟨a2,c2,hv2,_⟩:=own2.rd
 rw[hv2] at own2 hsn2 ⊢
 clear hv2
 have hlen2:(S.H.sp++[(⟨true,p0.aa,p0.ac,p0.ar,nTs,zTb⟩:PS)]).length=S.H.sp.length+1:=by simp
 have own2' : Own W1 B 55 10 (.slice a2 (S.H.sp++[(⟨true,p0.aa,p0.ac,p0.ar,nTs,zTb⟩:PS)]).length c2) (S.H.sp++[(⟨true,p0.aa,p0.ac,p0.ar,nTs,zTb⟩:PS)]).length ((S.H.sp++[(⟨true,p0.aa,p0.ac,p0.ar,nTs,zTb⟩:PS)]).flatMap nZ):=by
  rw[hlen2,List.flatMap_append]
  simpa using own2
 clear own2
 go_wp2_with (refine az rfl _ _ _ rfl b 11 _ [.slice a2 (S.H.sp.length+1) c2] rfl rfl rfl _ _ hbk2 (by show 11+1≤13;omega) (by kernel_rfl) (fun u hu=>by cases List.mem_singleton.1 hu;rfl) ?_)
 intro w3 hb3 hg3
 have h3:dz w3 B b { S with H:={ S.H with ap:=a2,cp:=c2,sp:=S.H.sp++[(⟨true,p0.aa,p0.ac,p0.ar,nTs,zTb⟩:PS)] } }:=hm1.appP hg2 own2' hps2 (by rw[hlen2,hl];exact hb3) hg3
 have s3:MS w b S w3 { S with H:={ S.H with ap:=a2,cp:=c2,sp:=S.H.sp++[(⟨true,p0.aa,p0.ac,p0.ar,nTs,zTb⟩:PS)] } }:=hs1.app hm1 hownP1 (by simp[eO]) hg2 hg3 hsn2 (fun x hx=>by
  rcases hx with hx|hx
  ·exact .inl (.inl hx)
  ·simp only[eO,List.mem_cons,List.not_mem_nil,or_false] at hx
   rcases hx with hx|hx|hx|hx|hx|hx|hx|hx|hx<;>first|exact .inr hx.symm|exact .inl (.inr (by simp[eO,hx])))
 clear hm1 hs1 hownP1 hbk2 hps2 own2' hb3 hg3 hsn2 hg2 hcell hap
 -- process 0's areas
 obtain⟨g3,o3,_,_,hv3,_,_,_,hc3,_⟩:=h3.ma.sp.put nK (by decide) 0 (by simp)
 have ha3:a2=some ⟨g3,o3,none⟩:=(Value.slice.inj hv3).1
 have c31:w3.cell? ⟨g3,o3+1,none⟩=some (.slice p0.aa p0.ar.length p0.ac):=by
  have e0:(S.H.sp++[(⟨true,p0.aa,p0.ac,p0.ar,nTs,zTb⟩:PS)])[0]'(by simp)=p0:=by simp[hsp'.out]
  rw[e0] at hc3
  have:=hc3 1 _ rfl
  simpa using this
 have hc:=h3.blk.cell
 unfold fD at hc
 dsimp only at hc
 rw[ha3,hlen2] at hc
 have hA0:=(h3.ma.ps p0 (List.mem_append_left _ hp0m)).1
 have hwA:Hid ((bF p0.ar).1=0):=Lib.hid (hd'.out.rt.pt.ar ⟨p0.lv,p0.ar,dZ (dE S.T 0)⟩ (by
  show _∈(List.range (S.H.sp.map PS.sp).length).map fun p=>({ dR S.H.ma p with tb:=dZ (dE S.T p) }:Sp)
  rw[List.mem_map]
  refine⟨0,by rw[List.length_map,hl];decide,?_⟩
  have e1:dR S.H.ma 0=p0.sp:=by show (S.H.sp.map PS.sp).getD 0 zSp=_;rw[hsp'.out];rfl
  rw[e1];rfl))
 have hAl:p0.ar.length≤16:=(iO.1 hwA.out).1
 have hsr:=Lib.hid (lN (iO.1 hwA.out).2)
 go_wp2_with fail
 refine (oZ p0.ar p0.aa p0.ac _ (oq hA0).rd (by omega) (fun x hx=>(srtF_ok hsr.out x hx).1)).mono ?_
 rintro r w4 ⟨rfl,hb4⟩
 have h4:=h3.below hb4
 have s4:=s3.below hb4
 have hs384:=Lib.hid (iP (bN p0.ar))
 clear h3 s3 hc c31 ha3 hb4 hA0
 go_wp2_with (refine aL rfl _ _ _ rfl (fC (bN p0.ar)) rfl rfl (by rw[hs384.out];rfl) (by rw[hs384.out];exact ones_size) (xe _) ?_)
 intro w5 hb5 fx5
 have h5:=h4.below hb5
 have s5:=s4.below hb5
 have hnf:=Lib.hid (h4.new (Nat.le_refl _))
 have hfw:=Lib.hid s4.size
 clear h4 s4 hb5
 generalize w4.heap.size=gf at *
 have hT1:S.T.length=1:=by
  have h9:=hd'.out.ok.len
  have h8:S.H.ma.sp.length=S.H.sp.length:=List.length_map _
  omega
 have hT1':=Lib.hid hT1
 have hl':=Lib.hid hl
 clear hT1 hl
 have hc:=h5.blk.cell
 unfold fD at hc
 dsimp only at hc
 have hownT:Own w5 B 90 192 (.slice S.ab S.T.length S.cb) S.T.length (S.T.flatMap tL):=h5.tt
 go_wp2_with (at_builtin;go_must (refine vX rfl _ _ rfl (by kernel_rfl) B (.slice S.ab S.T.length S.cb) S.T.length (S.T.flatMap tL) rfl hownT rfl (by have:=hT1'.out;omega) h5.bs ?_))
 intro v6 w6 own6 hg6 hsn6
 have hal5:=(Below.refl w5.heap.size w5).alloc (Nat.le_refl _) (.cells (tL (List.replicate 64 zEn)).toArray 90)
 have h5a:=h5.below hal5
 have s5a:=s5.below hal5
 have hownTa:=hownT.below hal5
 have hfa:=fx5.ext hal5
 have hkeep:∀ {x:Nat} {cs:Array Value} {T:TypeId},aD (w5.alloc (.cells (tL (List.replicate 64 zEn)).toArray 90)) x cs T→T≠90→aD w6 x cs T:=fun hk0 hT=>by
  rcases mY hownTa hg6 with hb0|⟨g,cs,hk,_,hg'⟩
  ·exact hk0.ext hb0
  ·exact aW hk0 hk (fun e=>hT e.symm) hg'
 have hbk6:=hkeep h5a.blk (by decide)
 have fx6:=hkeep hfa (by decide)
 have hTf:∀x,v6.ownBlock=some x→x≠gf:=fun x hx e=>by
  rcases hsn6 with e1|e1
  ·rw[e1] at hx
   obtain⟨cs,hk⟩:=jd hownTa x hx
   rw[e] at hk
   exact jB hk hfa (by decide) rfl
  ·have h9:=e1 x hx
   rw[e] at h9
   exact Nat.lt_irrefl _ (Nat.lt_of_lt_of_le hfa.lt h9)
 obtain⟨a4,c4,rfl,_⟩:=own6.rd
 have hkfT:some gf=oB a4→False:=fun e=>hTf gf (by rw[jv];exact e.symm) rfl
 have hlen4:(S.T++[List.replicate 64 zEn]).length=S.T.length+1:=by simp
 have own6' : Own w6 B 90 192 (.slice a4 (S.T++[List.replicate 64 zEn]).length c4) (S.T++[List.replicate 64 zEn]).length ((S.T++[List.replicate 64 zEn]).flatMap tL):=by
  rw[hlen4,List.flatMap_append]
  simpa using own6
 clear hc h5 s5 hownT own6 hal5 hkeep hfa fx5
 go_wp2_with (refine az rfl _ _ _ rfl b 12 _ [.slice a4 (S.T.length+1) c4] rfl rfl rfl _ _ hbk6 (by show 12+1≤13;omega) (by kernel_rfl) (fun u hu=>by cases List.mem_singleton.1 hu;rfl) ?_)
 intro w7 hb7 hg7
 have h7:dz w7 B b { S with H:={ S.H with ap:=some ⟨g3,o3,none⟩,cp:=c2,sp:=S.H.sp++[(⟨true,p0.aa,p0.ac,p0.ar,nTs,zTb⟩:PS)] },ab:=a4,cb:=c4,T:=S.T++[List.replicate 64 zEn] }:=h5a.appT hg6 own6' (by rw[hlen4];exact hb7) hg7
 have s7:MS w b S w7 { S with H:={ S.H with ap:=some ⟨g3,o3,none⟩,cp:=c2,sp:=S.H.sp++[(⟨true,p0.aa,p0.ac,p0.ar,nTs,zTb⟩:PS)] },ab:=a4,cb:=c4,T:=S.T++[List.replicate 64 zEn] }:=s5a.app h5a hownTa (by simp[eO]) hg6 hg7 hsn6 (fun x hx=>by
  rcases hx with hx|hx
  ·exact .inl (.inl hx)
  ·simp only[eO,List.mem_cons,List.not_mem_nil,or_false] at hx
   rcases hx with hx|hx|hx|hx|hx|hx|hx|hx|hx<;>first|exact .inr hx.symm|exact .inl (.inr (by simp[eO,hx])))
 have hnb:gf≠b:=fun e=>hnf.out (.inl e)
 have hkf7:Hid (¬jO b ({ S with H:={ S.H with ap:=some ⟨g3,o3,none⟩,cp:=c2,sp:=S.H.sp++[(⟨true,p0.aa,p0.ac,p0.ar,nTs,zTb⟩:PS)] },ab:=a4,cb:=c4,T:=S.T++[List.replicate 64 zEn] }:MW) gf):=Lib.hid fun hk=>by
  rcases hk with hk|hk
  ·exact hnf.out (.inl hk)
  ·simp only[eO,List.mem_cons,List.not_mem_nil,or_false] at hk
   have hlt:gf<w6.heap.size:=fx6.lt
   rcases hk with hk|hk|hk|hk|hk|hk|hk|hk|hk
   all_goals first
    | exact hkfT hk
    | exact hnf.out (.inr (by simp[eO,hk]))
 have fx7:=fx6.grown hg7 (fun e=>hnb (Option.some.inj e).symm)
 clear h5a s5a hownTa hbk6 own6' hb7 hg7 hsn6 hg6 fx6
 have hma5:({ S with H:={ S.H with ap:=some ⟨g3,o3,none⟩,cp:=c2,sp:=S.H.sp++[(⟨true,p0.aa,p0.ac,p0.ar,nTs,zTb⟩:PS)] },ab:=a4,cb:=c4,T:=S.T++[List.replicate 64 zEn] }:MW).H.ma = { S.H.ma with sp:=S.H.ma.sp++[⟨true,p0.ar,zTb⟩] }:=by simp[MH.ma,PS.sp]
 have hmore:Hid (More S { S with H:={ S.H with ap:=some ⟨g3,o3,none⟩,cp:=c2,sp:=S.H.sp++[(⟨true,p0.aa,p0.ac,p0.ar,nTs,zTb⟩:PS)] },ab:=a4,cb:=c4,T:=S.T++[List.replicate 64 zEn] }):=Lib.hid ⟨by
  rw[hma5]
  exact hd'.out.more (s:=⟨true,p0.ar,zTb⟩) (by show (S.H.sp.map PS.sp).length<4;rw[List.length_map,hl'.out];decide) rfl hwA.out,fun p hp n g hg=>by
  rcases List.mem_append.1 hp with hp|hp
  ·exact hf'.out p hp n g hg
  ·rw[List.mem_singleton.1 hp] at hg
   exact hf'.out p0 hp0m n g hg,rfl,rfl,rfl,by simp,rfl⟩
 have hspL:Hid (({ S with H:={ S.H with ap:=some ⟨g3,o3,none⟩,cp:=c2,sp:=S.H.sp++[(⟨true,p0.aa,p0.ac,p0.ar,nTs,zTb⟩:PS)] },ab:=a4,cb:=c4,T:=S.T++[List.replicate 64 zEn] }:MW).H.ma.sp.length=2):=Lib.hid (by
  rw[hma5,List.length_append]
  show (S.H.sp.map PS.sp).length+1=2
  rw[List.length_map,hl'.out])
 have hsp0:Hid ((dR ({ S with H:={ S.H with ap:=some ⟨g3,o3,none⟩,cp:=c2,sp:=S.H.sp++[(⟨true,p0.aa,p0.ac,p0.ar,nTs,zTb⟩:PS)] },ab:=a4,cb:=c4,T:=S.T++[List.replicate 64 zEn] }:MW).H.ma 0).ar=p0.ar∧(dR ({ S with H:={ S.H with ap:=some ⟨g3,o3,none⟩,cp:=c2,sp:=S.H.sp++[(⟨true,p0.aa,p0.ac,p0.ar,nTs,zTb⟩:PS)] },ab:=a4,cb:=c4,T:=S.T++[List.replicate 64 zEn] }:MW).H.ma 1).ar=p0.ar):=Lib.hid (by
  rw[hma5]
  have e:S.H.ma.sp=[p0.sp]:=by show S.H.sp.map PS.sp=_;rw[hsp'.out];rfl
  unfold dR
  simp only[e]
  exact⟨rfl,rfl⟩)
 obtain⟨t0,ht0⟩:=List.length_eq_one_iff.1 hT1'.out
 have hent:Hid ((∀j:Nat,dJ ({ S with H:={ S.H with ap:=some ⟨g3,o3,none⟩,cp:=c2,sp:=S.H.sp++[(⟨true,p0.aa,p0.ac,p0.ar,nTs,zTb⟩:PS)] },ab:=a4,cb:=c4,T:=S.T++[List.replicate 64 zEn] }:MW).T 0 j=t0.getD j zEn)∧∀j:Nat,(dJ ({ S with H:={ S.H with ap:=some ⟨g3,o3,none⟩,cp:=c2,sp:=S.H.sp++[(⟨true,p0.aa,p0.ac,p0.ar,nTs,zTb⟩:PS)] },ab:=a4,cb:=c4,T:=S.T++[List.replicate 64 zEn] }:MW).T 1 j).k=0):=Lib.hid (by
  unfold dJ dE
  simp only[ht0]
  refine⟨fun j=>rfl,fun j => ?_⟩
  show ((List.replicate 64 zEn).getD j zEn).k=0
  rw[List.getD_eq_getElem?_getD,List.getElem?_replicate]
  split<;>rfl)
 obtain⟨gT,oT,_,_,hvT,_,_,_,hcT,_⟩:=h7.tt.put sH (by decide) 0 (by simp)
 have haT:a4=some ⟨gT,oT,none⟩:=(Value.slice.inj hvT).1
 have hrdT:dA w7 (some ⟨gT,oT,none⟩) (tL t0):=fun j u hj=>⟨gT,oT,rfl,by
  have e0:(S.T++[List.replicate 64 zEn])[0]'(by simp)=t0:=by simp[ht0]
  rw[e0] at hcT
  simpa using hcT j u hj⟩
 have hTlen:(S.T++[List.replicate 64 zEn]).length=2:=by rw[hlen4,hT1'.out]
 have hc:=h7.blk.cell
 unfold fD at hc
 dsimp only at hc
 rw[haT,hTlen] at hc
 have ht0':=Lib.hid ht0
 clear hma5 ht0 hvT hcT
 have hsz3:(Tryz.prog.info? 90).map (·.size)=some (tL t0).length:=by rw[sH];exact ents_size
 have hsz3':=Lib.hid hsz3
 clear hsz3
 go_upto_region 3 with (fail)
 clear hnb hlen4 hlen2 hBs hnf hfw hs384 hwA
 go_upto_region 4 with (refine ay _ _ rfl gT oT rfl rfl (tL t0) hrdT _ underlying90 rfl hsz3'.out ?_)
 have h7:dz w7 B b { S with H:={ S.H with ap:=some ⟨g3,o3,none⟩,cp:=c2,sp:=S.H.sp++[(⟨true,p0.aa,p0.ac,p0.ar,nTs,zTb⟩:PS)] },ab:=a4,cb:=c4,T:=S.T++[List.replicate 64 zEn] }:=h7
 have hlen7:Hid (({ S with H:={ S.H with ap:=some ⟨g3,o3,none⟩,cp:=c2,sp:=S.H.sp++[(⟨true,p0.aa,p0.ac,p0.ar,nTs,zTb⟩:PS)] },ab:=a4,cb:=c4,T:=S.T++[List.replicate 64 zEn] }:MW).T.length=2):=Lib.hid hTlen
 clear hc hrdT hsz3' hTlen
 have hSp5:Hid (({ S with H:={ S.H with ap:=some ⟨g3,o3,none⟩,cp:=c2,sp:=S.H.sp++[(⟨true,p0.aa,p0.ac,p0.ar,nTs,zTb⟩:PS)] },ab:=a4,cb:=c4,T:=S.T++[List.replicate 64 zEn] }:MW).H.sp=S.H.sp++[(⟨true,p0.aa,p0.ac,p0.ar,nTs,zTb⟩:PS)]):=Lib.hid rfl
 have hT5:Hid (({ S with H:={ S.H with ap:=some ⟨g3,o3,none⟩,cp:=c2,sp:=S.H.sp++[(⟨true,p0.aa,p0.ac,p0.ar,nTs,zTb⟩:PS)] },ab:=a4,cb:=c4,T:=S.T++[List.replicate 64 zEn] }:MW).T=S.T++[List.replicate 64 zEn]):=Lib.hid rfl
 generalize ({ S with H:={ S.H with ap:=some ⟨g3,o3,none⟩,cp:=c2,sp:=S.H.sp++[(⟨true,p0.aa,p0.ac,p0.ar,nTs,zTb⟩:PS)] },ab:=a4,cb:=c4,T:=S.T++[List.replicate 64 zEn] }:MW)=S5 at *
 go_loopw [50] (fun i wr => ∃(n:Nat) (Sn:MW),n≤64∧i = .int .i64 n∧dz wr B b Sn∧MS w b S wr Sn∧aD wr gf (fC (bN p0.ar)) 110∧Hid (¬jO b Sn gf)∧Hid (BO S5 Sn∧Bd Sn.H.ma Sn.T∧∀j:Nat,n≤j→dJ Sn.T 0 j=t0.getD j zEn∧(dJ Sn.T 1 j).k=0)) (fun i _=>64-(intOf i).toNat)
 case atStart=>exact⟨0,S5,Nat.zero_le _,rfl,h7,s7,fx7,hkf7,Lib.hid ⟨.refl _,hmore.out.bd,fun j _=>by rw[hT5.out];exact⟨hent.out.1 j,hent.out.2 j⟩⟩⟩
 case round=>
  clear h7 s7 fx7 hkf7
  obtain⟨n,Sn,hn,rfl,hm,hs,fx,hkf,hN⟩:=hrel
  by_cases hn64:n<64
  ·have hni:(n:Int)<64:=by omega
   obtain⟨e,he⟩:∃e,t0.getD n zEn=e:=⟨_,rfl⟩
   have hix:=NH t0 n hn64 e he
   unfold iM at hix
   have he':=Lib.hid he
   clear he
   have hTSn:Sn.T.length=2:=by
    have h9:=hN.out.2.1.ok.len
    rw[h9]
    show (Sn.H.sp.map PS.sp).length=2
    rw[List.length_map,hN.out.1.sp,hmore.out.sp,hl'.out]
   have h64:Hid (∀p,p<2→(dE Sn.T p).length=64):=Lib.hid fun p hp=>hN.out.2.1.ok.l64 (by rw[←hN.out.2.1.ok.len,hTSn];exact hp)
   go_upto_region 6 with (fail)
   refine gB (fun W=>Code.wp _ _ _ _ W) fun W1 hb1 bx1 hs1 => ?_
   have hm1:=hm.below hb1
   have sm1:=hs.below hb1
   have fx1:=fx.ext hb1
   have hkgx:=Lib.hid (hm.new (Nat.le_refl _))
   have hfar:=Lib.hid (hm.newE (Nat.le_refl _))
   have hgxB:B≤wr.heap.size:=hm.bs
   have hgxw:=Lib.hid hs.size
   have hgfx:gf≠wr.heap.size:=fun e9=>by have:=fx.lt;omega
   have hcx:=bx1.cell
   clear hs1 hb1 hm hs fx hix
   generalize wr.heap.size=gx at *
   by_cases hk1:e.k=1
   ·have hK:=hN.out.1
    have hB:=hN.out.2.1
    have hL:Sn.H.ma.sp.length=2:=by rw[←hB.ok.len];exact hTSn
    have he0:dJ Sn.T 0 n=e:=by rw[(hN.out.2.2 n (Nat.le_refl _)).1];exact he'.out
    have hE:=sF hB.ok (p:=0) (n:=n) (by omega) hn64
    rw[he0] at hE
    have hfe:=jm hB.ok (p:=0) (n:=n) (by omega) hn64
    rw[he0] at hfe
    obtain⟨g,hpg,hfit⟩:=hB.rt.en 0 n (by rw[hfe,hk1];decide)
    rw[hfe] at hfit
    have hn0:0≤e.n:=by rcases (bV _).1 hE with h9 | h9 | h9<;>omega
    obtain⟨f,hf0⟩:=Int.eq_ofNat_of_zero_le hn0
    have hfl:f<Sn.H.m.fs.length:=by
     have h9:=hfit.lt hk1
     have e1:((dw Sn.H.ma Sn.T).m.fs.length:Nat)=Sn.H.m.fs.length:=rfl
     omega
    rw[kF (by omega)] at hpg
    have har:(dR Sn.H.ma 1).ar=(dR Sn.H.ma 0).ar∧(dR Sn.H.ma 0).ar=p0.ar:=by
     have e1:Sn.H.ma.sp=[p0.sp,⟨true,p0.ar,zTb⟩]:=by
      show Sn.H.sp.map PS.sp=_
      rw[hK.sp,hSp5.out,hsp'.out];rfl
     unfold dR
     rw[e1]
     exact⟨rfl,rfl⟩
    have hog:bN p0.ar n=some g:=by rw[oI hsr.out,←har.2];exact hpg
    obtain⟨ga,off,cap,cur,hv,hgB,hgk,hgs,hgc,hgw⟩:=hm1.ma.fr.put eB (by decide) f hfl
    have haf:Sn.H.af=some ⟨ga,off,none⟩:=(Value.slice.inj hv).1
    have hX:aO Sn.H.ma f=Sn.H.m.fs[f]:=by
     unfold aO
     show Sn.H.m.fs.getD f fr0=_
     rw[List.getD_eq_getElem?_getD,List.getElem?_eq_getElem hfl];rfl
    have hr0:=hB.rt.fewR (f:=f) hfl
    have hr1:0≤(Sn.H.m.fs[f]).r∧(Sn.H.m.fs[f]).r≤257:=by rw[←hX];exact hr0
    have hX':=Lib.hid hX
    have hgw':=Lib.hid hgw
    have hgc' : Hid (∀j u,(lZ Sn.H.m.fs[f])[j]?=some u→cur[off+f*13+j]?=some u):=Lib.hid fun j u hj=>by rw[←hgk.cell];exact hgc j u hj
    have hc0:∀W,Below W1.heap.size W1 W→W.cell? ⟨ga,off+f*13+8,none⟩=some (.int .i64 (Sn.H.m.fs[f]).r):=fun W hb=>by
     rw[(hgk.ext hb).cell,←hgk.cell]
     exact hgc 8 _ rfl
    have hall:=Lib.hid (And.intro hpg (And.intro hL (And.intro har (And.intro hE (And.intro he0 hog)))))
    clear hX hgw hgc hr0 hv hpg hfit hE hfe hK hB hL hn0 har he0 hog
    generalize Sn.H.m.fs[f]=X at hc0 hr1 hX' hgc'
    have hw0:IntKind.i64.wrap (X.r+1)=X.r+1:=IntWalk.i64_in _ (by omega)
    go_upto_region 7 with (fail)
    refine aG 14 [_,_,_,_,_,_,_,_,_,_,_,_,_,_] (Gk rfl (Gk rfl (Gf b 1 rfl rfl (Gf b 1 rfl rfl (Gf b 1 rfl rfl (Gl hm1.blk (V:=.slice (some ⟨ga,off,none⟩) Sn.H.m.fs.length Sn.H.cf) (by simp[fD,haf]) rfl rfl rfl rfl (Gf gx 1 rfl rfl (Gl bx1 (V:=.int .i64 (f:Int)) (by simp[iM,hf0]) rfl rfl rfl rfl (Gr (.pointer (some ⟨ga,off+f*13,none⟩)) (fun ρ y W hb hKn=>(bB rfl (aF rfl hKn) (aF rfl hKn) hfl underlying26 frame_size)) rfl rfl (Gf ga (off+f*13+8) rfl rfl (Gc (.int .i64 X.r) (fun W hb=>by simp[hc0 _ hb]) rfl rfl rfl rfl (Gb (.int .i64 (X.r+1)) (by simp[go_sem,hw0]) rfl rfl rfl rfl rfl (Gr (.pointer (some ⟨ga,off+f*13,none⟩)) (fun ρ y W hb hKn=>(bB rfl (aF rfl hKn) (aF rfl hKn) hfl underlying26 frame_size)) rfl rfl (Gf ga (off+f*13+8) rfl rfl (aB))))))))))))))) (fun _=>rfl) rfl ?_
    intro y W8 hbW8 _
    have hgk8:=hgk.ext hbW8
    have hm8:=hm1.below hbW8
    have sm8:=sm1.below hbW8
    have bx8:=bx1.ext hbW8
    have fx8:=fx1.ext hbW8
    clear hm1 sm1 bx1 fx1 hgk hcx hc0 hbW8
    go_wp2_with (refine az rfl _ _ _ rfl ga (off+f*13+8) _ [.int .i64 (X.r+1)] rfl rfl rfl _ _ hgk8 (by show off+f*13+8+1≤cur.size;omega) (by kernel_rfl) (fun u hu=>by cases List.mem_singleton.1 hu;rfl) ?_)
    intro w9 hb9 hg9
    rw[Cq (by omega) (fun j u hj=>hgc'.out j u hj)] at hb9
    have hx0:dz w9 B b (Sn.frs (Sn.H.m.fs.set f (fG X))):=hm8.putF hgk8 hgB hg9 (fs:=Sn.H.m.fs.set f (fG X)) (by simp) (by simpa using hgw'.out _ _ hb9)
    have hkaf:jO b Sn ga:=.inr (by simp only[eO,haf];exact List.mem_cons_self)
    have sx0:MS w b S w9 (Sn.frs (Sn.H.m.fs.set f (fG X))):=sm8.put hg9 hkaf (fun x hx => .inl hx)
    have bx9:=aW bx8 hgk8 (by decide) hg9
    have fx9:=aW fx8 hgk8 (by decide) hg9
    have hg3:w9.cell? ⟨gf,n*6+3,none⟩=some (.bool g.sh):=by
     rw[fx9.cell]
     exact tQ (bN p0.ar) n 3 hn64 _ (by rw[hall.out.2.2.2.2.2];rfl) (by decide)
    have hcx:=bx9.cell
    clear hm8 sm8 bx8 fx8 hgk8 hb9 hg9 haf hkaf
    unfold iM at hcx
    cases hsh:g.sh with
    | true=>
     rw[hsh] at hg3
     have hx:=hx0
     have sx:=sx0
     have bx:=bx9
     have fx1:=fx9
     have hkx:Hid (¬jO b (Sn.frs (Sn.H.m.fs.set f (fG X))) gf):=hkf
     have hkgx:Hid (¬jO b (Sn.frs (Sn.H.m.fs.set f (fG X))) gx):=hkgx
     have hT2:(Sn.frs (Sn.H.m.fs.set f (fG X))).T.length=2:=hTSn
     have h64a:(dE (Sn.frs (Sn.H.m.fs.set f (fG X))).T 0).length=64:=h64.out 0 (by decide)
     have h64b:(dE (Sn.frs (Sn.H.m.fs.set f (fG X))).T 1).length=64:=h64.out 1 (by decide)
     have hF12:Hid (BO S5 { (Sn.frs (Sn.H.m.fs.set f (fG X))) with T:=setL (setL (Sn.frs (Sn.H.m.fs.set f (fG X))).T 0 n e) 1 n e }∧Bd (Sn.frs (Sn.H.m.fs.set f (fG X))).H.ma (setL (setL (Sn.frs (Sn.H.m.fs.set f (fG X))).T 0 n e) 1 n e)∧∀j:Nat,n+1≤j→dJ (setL (setL (Sn.frs (Sn.H.m.fs.set f (fG X))).T 0 n e) 1 n e) 0 j=t0.getD j zEn∧(dJ (setL (setL (Sn.frs (Sn.H.m.fs.set f (fG X))).T 0 n e) 1 n e) 1 j).k=0):=Lib.hid (by
      have hK:=hN.out.1
      have hB:=hN.out.2.1
      obtain⟨hpg,hL,har,hE,he0,hog⟩:=hall.out
      have h12:=hB.share1 (w:=e.w) hL hn64 har.1 (by rw[he0];exact hk1) (hN.out.2.2 n (Nat.le_refl _)).2 hpg (by rw[he0];exact hf0) (by rw[he0,hsh];rfl)
      rw[hX'.out,show (⟨1,(f:Int),e.w⟩:En)=e from by rw[←hf0,←hk1]] at h12
      have hE2:eT e=0:=by
       rw[bV] at hE ⊢
       rcases hE with h9|h9|h9
       ·omega
       ·first
        | exact .inr (.inl ⟨h9.1,h9.2⟩)
        | exact .inr (.inl ⟨rfl,by show (0:Int)≤f;omega,by show (f:Int)<40;omega⟩)
       ·omega
      exact⟨⟨hK.sp,hK.fi,hK.ct,hK.dk,by show (Sn.H.m.fs.set f (fG X)).length=_;rw[List.length_set];exact hK.fl,hK.sl⟩,h12,fun j hj=>by
       show dJ (setL (setL Sn.T 0 n e) 1 n e) 0 j=_∧(dJ (setL (setL Sn.T 0 n e) 1 n e) 1 j).k=0
       rw[nN hB.ok hL hn64 hE2 _ _ (by omega),nN hB.ok hL hn64 hE2 _ _ (by omega)]
       exact hN.out.2.2 j (by omega)⟩)
     generalize hSx:(Sn.frs (Sn.H.m.fs.set f (fG X)))=Sx at hx sx hkx hkgx hT2 h64a h64b hF12
     clear hx0 sx0 bx9 fx9
     obtain⟨gT2,oT2,_,hab2,hgT2B,hkT2,_⟩:=hx.ent (p:=0) (n:=n) (by omega) hn64 h64a
     have hgxT:gx≠gT2:=fun e9=>hkgx.out (.inr (by rw[e9];simp[eO,hab2,oB];right;right;right;right;right;right;right;right;rfl))
     have hgfT:gf≠gT2:=fun e9=>hkx.out (.inr (by rw[e9];simp[eO,hab2,oB];right;right;right;right;right;right;right;right;rfl))
     go_upto_region 12 with (fail)
     refine lu 17 [_,_,_,.v (.slice (some ⟨gT2,oT2,none⟩) 2 Sx.cb),_,_,_,_,.v (.slice (some ⟨gT2,oT2,none⟩) 2 Sx.cb),_,.v (.agg (iM e)),.v (.agg (iM e)),_,.v (.pointer (some ⟨gT2,oT2+n*3,none⟩)),.r 14 ((aR fun _=>True)),_,.v (.pointer (some ⟨gT2,oT2+192+n*3,none⟩))] (Ec S Sx { Sx with T:=setL Sx.T 0 n e } B b w gx gf e (fC (bN p0.ar))) aJ (fun _=>⟨⟨bx,fx1⟩,fun _=>⟨hx,sx⟩,fun h=>(by cases h)⟩) (Qk aJ rfl (Qk aJ rfl (Qf aJ b 12 rfl rfl (ae ?_ (Qk aJ rfl (Qk aJ rfl (Qk aJ rfl (Qf aJ b 12 rfl rfl (ae ?_ (Qk aJ rfl (ae ?_ (ae ?_ (Qr aJ (.pointer (some ⟨gT2,oT2,none⟩)) (fun ρ y W hKn=>(bB (i:=0) rfl (aF rfl hKn) (aF rfl hKn) (by decide) underlying75 ents_size)) rfl rfl (ae ?_ (ae ?_ (Qr aJ (.pointer (some ⟨gT2,oT2+192,none⟩)) (fun ρ y W hKn=>(bB (i:=1) rfl (aF rfl hKn) (aF rfl hKn) (by decide) underlying75 ents_size)) rfl rfl (ae ?_ (aB)))))))))))))))))) (fun _=>rfl) rfl ?_
     ·intro ρ y W L hw hn hLi hLd hb hd
      refine bS aJ (fun _ _ h=>h) hb ?_
      have E93:=hw 93 2 rfl
      have h2:y 2=_:=hd 2 rfl
      have hcc:=nH hb (by simp[fD,setL])
      refine aj (.slice (some ⟨gT2,oT2,none⟩) 2 Sx.cb) (ah rfl) (by simp[execOp,go_sem,bC,E93,h2,hcc,fD,hab2,hT2]) rfl
     ·intro ρ y W L hw hn hLi hLd hb hd
      refine bS aJ (fun _ _ h=>h) hb ?_
      have E98:=hw 98 7 rfl
      have h7:y 7=_:=hd 7 rfl
      have hcc:=nH hb (by simp[fD,setL])
      refine aj (.slice (some ⟨gT2,oT2,none⟩) 2 Sx.cb) (ah rfl) (by simp[execOp,go_sem,bC,E98,h7,hcc,fD,hab2,hT2]) rfl
     ·intro ρ y W L hw hn hLi hLd hb hd
      refine bS aJ (fun _ _ h=>h) hb ?_
      have E4:ρ (.tmp 4) = .pointer (some ⟨gx,0,none⟩):=(hn (.tmp 4) rfl).trans rfl
      refine aj (.agg (iM e)) (ah rfl) (bI rfl E4 hb.1.1 underlying89 rfl entry_size3) rfl
     ·intro ρ y W L hw hn hLi hLd hb hd
      refine bS aJ (fun _ _ h=>h) hb ?_
      have E4:ρ (.tmp 4) = .pointer (some ⟨gx,0,none⟩):=(hn (.tmp 4) rfl).trans rfl
      refine aj (.agg (iM e)) (ah rfl) (bI rfl E4 hb.1.1 underlying89 rfl entry_size3) rfl
     ·intro ρ y W L hw hn hLi hLd hb hd
      refine bS aJ (fun _ _ h=>h) hb ?_
      have E103:=hw 103 12 rfl
      have h12:y 12=_:=hd 12 rfl
      have E95:=hw 95 4 rfl
      have h4:y 4=_:=hd 4 rfl
      have hn9:((64:Int)≤(n:Int))=False:=eq_false (by omega)
      refine aj (.pointer (some ⟨gT2,oT2+n*3,none⟩)) (ah rfl) (by simp[execOp,go_sem,bC,E103,h12,E95,h4,hn64,hn9]) rfl
     ·intro ρ y W L hw hn hLi hLd hb hd;have E104:=hw 104 13 rfl;have h13:y 13=_:=hd 13 rfl;have E101:=hw 101 10 rfl;have h10:y 10=_:=hd 10 rfl
      obtain⟨hm9,hs9⟩:=hb.2.1 hLi
      obtain⟨gQ,oQ,curQ,hQ,hQB,hQk,hQs,_,hQw⟩:=hm9.ent (p:=0) (n:=n) (by omega) hn64 h64a
      cases (hQ.symm.trans hab2)
      rw[Nat.zero_mul,Nat.add_zero] at hQs hQw
      exact kv (ah rfl) (nS _ _ _ rfl gT2 (oT2+n*3) _ (jT e) (E104.trans h13) (E101.trans h10) rfl curQ _ hQk (by rw[eU];exact hQs) (by kernel_rfl) (bv (fJ _))) ⟨⟨hb.1.1.grown (aA _ _ _ _) (fun e9=>hgxT (Option.some.inj e9).symm),hb.1.2.grown (aA _ _ _ _) (fun e9=>hgfT (Option.some.inj e9).symm)⟩,fun h=>(by cases h),fun _=>⟨hQw _ e (hQk.setCells _ _) (aA _ _ _ _),hs9.put (aA _ _ _ _) (.inr (by simp only[eO,hab2];simp[oB];right;right;right;right;right;right;right;right;rfl)) (fun x hx => .inl hx)⟩⟩ trivial
     ·intro ρ y W L hw hn hLi hLd hb hd
      refine bS aJ (fun _ _ h=>h) hb ?_
      have E105:=hw 105 15 rfl
      have h15:y 15=_:=hd 15 rfl
      have E100:=hw 100 9 rfl
      have h9:y 9=_:=hd 9 rfl
      have hn9:((64:Int)≤(n:Int))=False:=eq_false (by omega)
      refine aj (.pointer (some ⟨gT2,oT2+192+n*3,none⟩)) (ah rfl) (by simp[execOp,go_sem,bC,E105,h15,E100,h9,hn64,hn9]) rfl
     intro y W9 hbW9 hRW9
     have hy14:((aR fun _=>True)).r (y 14) W9:=hRW9 14 (by decide)
     clear hRW9
     simp only[bH,bC,List.map_cons,List.map_nil]
     obtain⟨⟨bx9,fx9⟩,_,hq9⟩:=hbW9
     obtain⟨h9,s9⟩:=hq9 rfl
     have hT9:(setL Sx.T 0 n e).length=2:=by unfold setL;rw[List.length_set];exact hT2
     obtain⟨gR,oR',curR,hR,hRB,hRk,hRs,_,hRw⟩:=h9.ent (p:=1) (n:=n) (by show 1<(setL Sx.T 0 n e).length;omega) hn64 (by
      show (dE (setL Sx.T 0 n e) 1).length=64
      rw[mP (by omega),if_neg (by decide)]
      exact h64b)
     have hR:Sx.ab=some ⟨gR,oR',none⟩:=hR
     cases (hR.symm.trans hab2)
     rw[Nat.one_mul] at hRs hRw
     have hRw':=Lib.hid hRw
     clear hRw hq9 hx sx bx fx1
     go_wp2_with (refine az rfl _ _ _ rfl gT2 (oT2+192+n*3) _ (jT e) rfl rfl rfl _ _ hRk (by rw[eU];exact hRs) (by kernel_rfl) (bv (fJ _)) ?_)
     intro w10 hb10 hg10
     have h10:=hRw'.out w10 e hb10 hg10
     have s10:MS w b S w10 { Sx with T:=setL (setL Sx.T 0 n e) 1 n e }:=s9.put hg10 (.inr (by simp only[eO,hab2];simp[oB];right;right;right;right;right;right;right;right;rfl)) (fun x hx => .inl hx)
     have fx10:=fx9.grown hg10 (fun e9=>hgfT (Option.some.inj e9).symm)
     clear h9 s9 bx9 fx9 hRk hb10 hg10
     go_wp2
     go_roundw
     case rel=>exact⟨n+1,_,by omega,by go_num,h10,s10,fx10,hkx,hF12⟩
     case measure=>simp[intOf];omega
    | false=>
     rw[hsh] at hg3
     go_wp2_with (refine az rfl _ _ _ rfl gx 2 _ [.bool false] rfl rfl rfl _ _ bx9 (by show 2+1≤3;omega) (by kernel_rfl) (fun u hu=>by cases List.mem_singleton.1 hu;rfl) ?_)
     intro w10 bx hg10
     have bx:aD w10 gx (iM ⟨1,(f:Int),false⟩) 89:=bx
     have hx:dz w10 B b (Sn.frs (Sn.H.m.fs.set f (fG X))):=hx0.locE bx9 hkgx.out hfar.out hgxB hg10
     have sx:=sx0.loc hg10 hgxw.out
     have fx1:=fx9.grown hg10 (fun e9=>hgfx (Option.some.inj e9).symm)
     clear hcx
     have hcx:=bx.cell
     unfold iM at hcx
     have hkx:Hid (¬jO b (Sn.frs (Sn.H.m.fs.set f (fG X))) gf):=hkf
     have hkgx:Hid (¬jO b (Sn.frs (Sn.H.m.fs.set f (fG X))) gx):=hkgx
     have hT2:(Sn.frs (Sn.H.m.fs.set f (fG X))).T.length=2:=hTSn
     have h64a:(dE (Sn.frs (Sn.H.m.fs.set f (fG X))).T 0).length=64:=h64.out 0 (by decide)
     have h64b:(dE (Sn.frs (Sn.H.m.fs.set f (fG X))).T 1).length=64:=h64.out 1 (by decide)
     have hF12:Hid (BO S5 { (Sn.frs (Sn.H.m.fs.set f (fG X))) with T:=setL (setL (Sn.frs (Sn.H.m.fs.set f (fG X))).T 0 n (⟨1,(f:Int),false⟩:En)) 1 n (⟨1,(f:Int),false⟩:En) }∧Bd (Sn.frs (Sn.H.m.fs.set f (fG X))).H.ma (setL (setL (Sn.frs (Sn.H.m.fs.set f (fG X))).T 0 n (⟨1,(f:Int),false⟩:En)) 1 n (⟨1,(f:Int),false⟩:En))∧∀j:Nat,n+1≤j→dJ (setL (setL (Sn.frs (Sn.H.m.fs.set f (fG X))).T 0 n (⟨1,(f:Int),false⟩:En)) 1 n (⟨1,(f:Int),false⟩:En)) 0 j=t0.getD j zEn∧(dJ (setL (setL (Sn.frs (Sn.H.m.fs.set f (fG X))).T 0 n (⟨1,(f:Int),false⟩:En)) 1 n (⟨1,(f:Int),false⟩:En)) 1 j).k=0):=Lib.hid (by
      have hK:=hN.out.1
      have hB:=hN.out.2.1
      obtain⟨hpg,hL,har,hE,he0,hog⟩:=hall.out
      have h12:=hB.share1 (w:=false) hL hn64 har.1 (by rw[he0];exact hk1) (hN.out.2.2 n (Nat.le_refl _)).2 hpg (by rw[he0];exact hf0) (by rw[he0,hsh];rfl)
      rw[hX'.out,show (⟨1,(f:Int),false⟩:En)=(⟨1,(f:Int),false⟩:En) from by rw[←hf0,←hk1]] at h12
      have hE2:eT (⟨1,(f:Int),false⟩:En)=0:=by
       rw[bV] at hE ⊢
       rcases hE with h9|h9|h9
       ·omega
       ·first
        | exact .inr (.inl ⟨h9.1,h9.2⟩)
        | exact .inr (.inl ⟨rfl,by show (0:Int)≤f;omega,by show (f:Int)<40;omega⟩)
       ·omega
      exact⟨⟨hK.sp,hK.fi,hK.ct,hK.dk,by show (Sn.H.m.fs.set f (fG X)).length=_;rw[List.length_set];exact hK.fl,hK.sl⟩,h12,fun j hj=>by
       show dJ (setL (setL Sn.T 0 n (⟨1,(f:Int),false⟩:En)) 1 n (⟨1,(f:Int),false⟩:En)) 0 j=_∧(dJ (setL (setL Sn.T 0 n (⟨1,(f:Int),false⟩:En)) 1 n (⟨1,(f:Int),false⟩:En)) 1 j).k=0
       rw[nN hB.ok hL hn64 hE2 _ _ (by omega),nN hB.ok hL hn64 hE2 _ _ (by omega)]
       exact hN.out.2.2 j (by omega)⟩)
     generalize hSx:(Sn.frs (Sn.H.m.fs.set f (fG X)))=Sx at hx sx hkx hkgx hT2 h64a h64b hF12
     clear hx0 sx0 bx9 fx9 hg10
     obtain⟨gT2,oT2,_,hab2,hgT2B,hkT2,_⟩:=hx.ent (p:=0) (n:=n) (by omega) hn64 h64a
     have hgxT:gx≠gT2:=fun e9=>hkgx.out (.inr (by rw[e9];simp[eO,hab2,oB];right;right;right;right;right;right;right;right;rfl))
     have hgfT:gf≠gT2:=fun e9=>hkx.out (.inr (by rw[e9];simp[eO,hab2,oB];right;right;right;right;right;right;right;right;rfl))
     go_upto_region 12 with (fail)
     refine lu 17 [_,_,_,.v (.slice (some ⟨gT2,oT2,none⟩) 2 Sx.cb),_,_,_,_,.v (.slice (some ⟨gT2,oT2,none⟩) 2 Sx.cb),_,.v (.agg (iM (⟨1,(f:Int),false⟩:En))),.v (.agg (iM (⟨1,(f:Int),false⟩:En))),_,.v (.pointer (some ⟨gT2,oT2+n*3,none⟩)),.r 14 ((aR fun _=>True)),_,.v (.pointer (some ⟨gT2,oT2+192+n*3,none⟩))] (Ec S Sx { Sx with T:=setL Sx.T 0 n (⟨1,(f:Int),false⟩:En) } B b w gx gf (⟨1,(f:Int),false⟩:En) (fC (bN p0.ar))) aJ (fun _=>⟨⟨bx,fx1⟩,fun _=>⟨hx,sx⟩,fun h=>(by cases h)⟩) (Qk aJ rfl (Qk aJ rfl (Qf aJ b 12 rfl rfl (ae ?_ (Qk aJ rfl (Qk aJ rfl (Qk aJ rfl (Qf aJ b 12 rfl rfl (ae ?_ (Qk aJ rfl (ae ?_ (ae ?_ (Qr aJ (.pointer (some ⟨gT2,oT2,none⟩)) (fun ρ y W hKn=>(bB (i:=0) rfl (aF rfl hKn) (aF rfl hKn) (by decide) underlying75 ents_size)) rfl rfl (ae ?_ (ae ?_ (Qr aJ (.pointer (some ⟨gT2,oT2+192,none⟩)) (fun ρ y W hKn=>(bB (i:=1) rfl (aF rfl hKn) (aF rfl hKn) (by decide) underlying75 ents_size)) rfl rfl (ae ?_ (aB)))))))))))))))))) (fun _=>rfl) rfl ?_
     ·intro ρ y W L hw hn hLi hLd hb hd
      refine bS aJ (fun _ _ h=>h) hb ?_
      have E93:=hw 93 2 rfl
      have h2:y 2=_:=hd 2 rfl
      have hcc:=nH hb (by simp[fD,setL])
      refine aj (.slice (some ⟨gT2,oT2,none⟩) 2 Sx.cb) (ah rfl) (by simp[execOp,go_sem,bC,E93,h2,hcc,fD,hab2,hT2]) rfl
     ·intro ρ y W L hw hn hLi hLd hb hd
      refine bS aJ (fun _ _ h=>h) hb ?_
      have E98:=hw 98 7 rfl
      have h7:y 7=_:=hd 7 rfl
      have hcc:=nH hb (by simp[fD,setL])
      refine aj (.slice (some ⟨gT2,oT2,none⟩) 2 Sx.cb) (ah rfl) (by simp[execOp,go_sem,bC,E98,h7,hcc,fD,hab2,hT2]) rfl
     ·intro ρ y W L hw hn hLi hLd hb hd
      refine bS aJ (fun _ _ h=>h) hb ?_
      have E4:ρ (.tmp 4) = .pointer (some ⟨gx,0,none⟩):=(hn (.tmp 4) rfl).trans rfl
      refine aj (.agg (iM (⟨1,(f:Int),false⟩:En))) (ah rfl) (bI rfl E4 hb.1.1 underlying89 rfl entry_size3) rfl
     ·intro ρ y W L hw hn hLi hLd hb hd
      refine bS aJ (fun _ _ h=>h) hb ?_
      have E4:ρ (.tmp 4) = .pointer (some ⟨gx,0,none⟩):=(hn (.tmp 4) rfl).trans rfl
      refine aj (.agg (iM (⟨1,(f:Int),false⟩:En))) (ah rfl) (bI rfl E4 hb.1.1 underlying89 rfl entry_size3) rfl
     ·intro ρ y W L hw hn hLi hLd hb hd
      refine bS aJ (fun _ _ h=>h) hb ?_
      have E103:=hw 103 12 rfl
      have h12:y 12=_:=hd 12 rfl
      have E95:=hw 95 4 rfl
      have h4:y 4=_:=hd 4 rfl
      have hn9:((64:Int)≤(n:Int))=False:=eq_false (by omega)
      refine aj (.pointer (some ⟨gT2,oT2+n*3,none⟩)) (ah rfl) (by simp[execOp,go_sem,bC,E103,h12,E95,h4,hn64,hn9]) rfl
     ·intro ρ y W L hw hn hLi hLd hb hd;have E104:=hw 104 13 rfl;have h13:y 13=_:=hd 13 rfl;have E101:=hw 101 10 rfl;have h10:y 10=_:=hd 10 rfl
      obtain⟨hm9,hs9⟩:=hb.2.1 hLi
      obtain⟨gQ,oQ,curQ,hQ,hQB,hQk,hQs,_,hQw⟩:=hm9.ent (p:=0) (n:=n) (by omega) hn64 h64a
      cases (hQ.symm.trans hab2)
      rw[Nat.zero_mul,Nat.add_zero] at hQs hQw
      exact kv (ah rfl) (nS _ _ _ rfl gT2 (oT2+n*3) _ (jT (⟨1,(f:Int),false⟩:En)) (E104.trans h13) (E101.trans h10) rfl curQ _ hQk (by rw[eU];exact hQs) (by kernel_rfl) (bv (fJ _))) ⟨⟨hb.1.1.grown (aA _ _ _ _) (fun e9=>hgxT (Option.some.inj e9).symm),hb.1.2.grown (aA _ _ _ _) (fun e9=>hgfT (Option.some.inj e9).symm)⟩,fun h=>(by cases h),fun _=>⟨hQw _ (⟨1,(f:Int),false⟩:En) (hQk.setCells _ _) (aA _ _ _ _),hs9.put (aA _ _ _ _) (.inr (by simp only[eO,hab2];simp[oB];right;right;right;right;right;right;right;right;rfl)) (fun x hx => .inl hx)⟩⟩ trivial
     ·intro ρ y W L hw hn hLi hLd hb hd
      refine bS aJ (fun _ _ h=>h) hb ?_
      have E105:=hw 105 15 rfl
      have h15:y 15=_:=hd 15 rfl
      have E100:=hw 100 9 rfl
      have h9:y 9=_:=hd 9 rfl
      have hn9:((64:Int)≤(n:Int))=False:=eq_false (by omega)
      refine aj (.pointer (some ⟨gT2,oT2+192+n*3,none⟩)) (ah rfl) (by simp[execOp,go_sem,bC,E105,h15,E100,h9,hn64,hn9]) rfl
     intro y W9 hbW9 hRW9
     have hy14:((aR fun _=>True)).r (y 14) W9:=hRW9 14 (by decide)
     clear hRW9
     simp only[bH,bC,List.map_cons,List.map_nil]
     obtain⟨⟨bx9,fx9⟩,_,hq9⟩:=hbW9
     obtain⟨h9,s9⟩:=hq9 rfl
     have hT9:(setL Sx.T 0 n (⟨1,(f:Int),false⟩:En)).length=2:=by unfold setL;rw[List.length_set];exact hT2
     obtain⟨gR,oR',curR,hR,hRB,hRk,hRs,_,hRw⟩:=h9.ent (p:=1) (n:=n) (by show 1<(setL Sx.T 0 n (⟨1,(f:Int),false⟩:En)).length;omega) hn64 (by
      show (dE (setL Sx.T 0 n (⟨1,(f:Int),false⟩:En)) 1).length=64
      rw[mP (by omega),if_neg (by decide)]
      exact h64b)
     have hR:Sx.ab=some ⟨gR,oR',none⟩:=hR
     cases (hR.symm.trans hab2)
     rw[Nat.one_mul] at hRs hRw
     have hRw':=Lib.hid hRw
     clear hRw hq9 hx sx bx fx1
     go_wp2_with (refine az rfl _ _ _ rfl gT2 (oT2+192+n*3) _ (jT (⟨1,(f:Int),false⟩:En)) rfl rfl rfl _ _ hRk (by rw[eU];exact hRs) (by kernel_rfl) (bv (fJ _)) ?_)
     intro w10 hb10 hg10
     have h10:=hRw'.out w10 (⟨1,(f:Int),false⟩:En) hb10 hg10
     have s10:MS w b S w10 { Sx with T:=setL (setL Sx.T 0 n (⟨1,(f:Int),false⟩:En)) 1 n (⟨1,(f:Int),false⟩:En) }:=s9.put hg10 (.inr (by simp only[eO,hab2];simp[oB];right;right;right;right;right;right;right;right;rfl)) (fun x hx => .inl hx)
     have fx10:=fx9.grown hg10 (fun e9=>hgfT (Option.some.inj e9).symm)
     clear h9 s9 bx9 fx9 hRk hb10 hg10
     go_wp2
     go_roundw
     case rel=>exact⟨n+1,_,by omega,by go_num,h10,s10,fx10,hkx,hF12⟩
     case measure=>simp[intOf];omega
   ·by_cases hk2:e.k=2
    ·have hK:=hN.out.1
     have hB:=hN.out.2.1
     have hL:Sn.H.ma.sp.length=2:=by rw[←hB.ok.len];exact hTSn
     have he0:dJ Sn.T 0 n=e:=by rw[(hN.out.2.2 n (Nat.le_refl _)).1];exact he'.out
     have hE:=sF hB.ok (p:=0) (n:=n) (by omega) hn64
     rw[he0] at hE
     have hfe:=jm hB.ok (p:=0) (n:=n) (by omega) hn64
     rw[he0] at hfe
     obtain⟨g,hpg,hfit⟩:=hB.rt.en 0 n (by rw[hfe,hk2];decide)
     rw[hfe] at hfit
     have hn0:0≤e.n:=by rcases (bV _).1 hE with h9 | h9 | h9<;>omega
     obtain⟨s0,hs0⟩:=Int.eq_ofNat_of_zero_le hn0
     have hsl:s0<Sn.H.sl.length:=by
      have h9:=(hfit.sw hk2).1
      have e1:((dw Sn.H.ma Sn.T).sl.length:Nat)=Sn.H.sl.length:=rfl
      omega
     obtain⟨gs,off,cap,cur,hv,hgB,hgk,hgs,hgc,hgw⟩:=Own.put (enc:=fun x=>[eH x]) (sz:=1) (l:=Sn.H.sl) (fun _=>rfl) Nat.one_pos (by rw[gJ];exact hm1.ma.sl) s0 hsl
     have has:Sn.H.asl=some ⟨gs,off,none⟩:=(Value.slice.inj hv).1
     rw[Nat.mul_one] at hgs hgc hgw
     have hz0:lV Sn.H.ma s0=Sn.H.sl[s0]:=by
      unfold lV
      show Sn.H.sl.getD s0 0=_
      rw[List.getD_eq_getElem?_getD,List.getElem?_eq_getElem hsl];rfl
     have hfw9:=hB.rt.fewS (s:=s0) hsl
     have hfw8:0≤Sn.H.sl[s0]∧Sn.H.sl[s0]≤256:=by rw[←hz0];exact hfw9
     have hgw':=Lib.hid hgw
     have hz0':=Lib.hid hz0
     have hc0:∀W,Below W1.heap.size W1 W→W.cell? ⟨gs,off+s0,none⟩=some (.int .i64 Sn.H.sl[s0]):=fun W hb=>by
      have h9:=hgc 0 _ rfl
      rw[Nat.add_zero] at h9
      have h8:=(hgk.ext hb).cell (off+s0)
      rw[h8,←hgk.cell];exact h9
     have hps:=Lib.hid (And.intro hpg hL)
     clear hz0 hgw hgc hfw9 hv hpg hfit hE hfe hK hB hL hn0
     generalize Sn.H.sl[s0]=v0 at hc0 hfw8 hz0'
     have hw0:IntKind.i64.wrap (v0+1)=v0+1:=IntWalk.i64_in _ (by omega)
     have he0':=Lib.hid he0
     clear he0
     go_upto_region 11 with (fail)
     refine aG 11 [_,_,_,_,_,_,_,_,_,_,_] (Gk rfl (Gk rfl (Gf b 1 rfl rfl (Gf b 3 rfl rfl (Gl hm1.blk (V:=.slice (some ⟨gs,off,none⟩) Sn.H.sl.length Sn.H.csl) (by simp[fD,has]) rfl rfl rfl rfl (Gf gx 1 rfl rfl (Gl bx1 (V:=.int .i64 (s0:Int)) (by simp[iM,hs0]) rfl rfl rfl rfl (Gr (.pointer (some ⟨gs,off+s0,none⟩)) (fun ρ y W hb hKn=>(CR rfl (aF rfl hKn) (aF rfl hKn) hsl)) rfl rfl (Gc (.int .i64 v0) (fun W hb=>by simp[hc0 _ hb]) rfl rfl rfl rfl (Gb (.int .i64 (v0+1)) (by simp[go_sem,hw0]) rfl rfl rfl rfl rfl (Gr (.pointer (some ⟨gs,off+s0,none⟩)) (fun ρ y W hb hKn=>(CR rfl (aF rfl hKn) (aF rfl hKn) hsl)) rfl rfl (aB)))))))))))) (fun _=>rfl) rfl ?_
     intro y W8 hbW8 _
     have hgk8:=hgk.ext hbW8
     have hm8:=hm1.below hbW8
     have sm8:=sm1.below hbW8
     have bx8:=bx1.ext hbW8
     have fx8:=fx1.ext hbW8
     clear hm1 sm1 bx1 fx1 hgk hcx hc0 hbW8
     go_wp2_with (refine az rfl _ _ _ rfl gs (off+s0) _ [.int .i64 (v0+1)] rfl rfl rfl _ _ hgk8 (by show off+s0+1≤cur.size;omega) (by kernel_rfl) (fun u hu=>by cases List.mem_singleton.1 hu;rfl) ?_)
     intro w9 hb9 hg9
     have hga:oB Sn.H.asl=some gs:=by rw[has];rfl
     have hx:dz w9 B b { Sn with H:={ Sn.H with sl:=Sn.H.sl.set s0 (v0+1) } }:=hm8.putS hgk8 hgB hga hg9 (sl:=Sn.H.sl.set s0 (v0+1)) (by simp) (by
      have h9:=hgw'.out w9 (v0+1) hb9
      rw[gJ] at h9
      simpa using h9)
     have sx:MS w b S w9 { Sn with H:={ Sn.H with sl:=Sn.H.sl.set s0 (v0+1) } }:=sm8.put hg9 (.inr (by simp[eO,hga])) (fun x hx => .inl hx)
     have bx:=aW bx8 hgk8 (by decide) hg9
     have fx1:=aW fx8 hgk8 (by decide) hg9
     have hkx:Hid (¬jO b ({ Sn with H:={ Sn.H with sl:=Sn.H.sl.set s0 (v0+1) } }:MW) gf):=hkf
     have hkgx:Hid (¬jO b ({ Sn with H:={ Sn.H with sl:=Sn.H.sl.set s0 (v0+1) } }:MW) gx):=hkgx
     have hT2:({ Sn with H:={ Sn.H with sl:=Sn.H.sl.set s0 (v0+1) } }:MW).T.length=2:=hTSn
     have h64a:(dE ({ Sn with H:={ Sn.H with sl:=Sn.H.sl.set s0 (v0+1) } }:MW).T 0).length=64:=h64.out 0 (by decide)
     have h64b:(dE ({ Sn with H:={ Sn.H with sl:=Sn.H.sl.set s0 (v0+1) } }:MW).T 1).length=64:=h64.out 1 (by decide)
     have hF12:Hid (BO S5 { ({ Sn with H:={ Sn.H with sl:=Sn.H.sl.set s0 (v0+1) } }:MW) with T:=setL (setL ({ Sn with H:={ Sn.H with sl:=Sn.H.sl.set s0 (v0+1) } }:MW).T 0 n e) 1 n e }∧Bd ({ Sn with H:={ Sn.H with sl:=Sn.H.sl.set s0 (v0+1) } }:MW).H.ma (setL (setL ({ Sn with H:={ Sn.H with sl:=Sn.H.sl.set s0 (v0+1) } }:MW).T 0 n e) 1 n e)∧∀j:Nat,n+1≤j→dJ (setL (setL ({ Sn with H:={ Sn.H with sl:=Sn.H.sl.set s0 (v0+1) } }:MW).T 0 n e) 1 n e) 0 j=t0.getD j zEn∧(dJ (setL (setL ({ Sn with H:={ Sn.H with sl:=Sn.H.sl.set s0 (v0+1) } }:MW).T 0 n e) 1 n e) 1 j).k=0):=Lib.hid (by
      have hK:=hN.out.1
      have hB:=hN.out.2.1
      have hL:=hps.out.2
      have hE:=sF hB.ok (p:=0) (n:=n) (by omega) hn64
      rw[he0'.out] at hE
      have hpg:=hps.out.1
      rw[kF (by omega)] at hpg
      have har:(dR Sn.H.ma 1).ar=(dR Sn.H.ma 0).ar:=by
       show ((Sn.H.sp.map PS.sp).getD 1 zSp).ar=((Sn.H.sp.map PS.sp).getD 0 zSp).ar
       rw[hK.sp,hSp5.out,hsp'.out];rfl
      have h12:=hB.share2 hL hn64 har (by rw[he0'.out];exact hk2) (hN.out.2.2 n (Nat.le_refl _)).2 hpg (by rw[he0'.out];exact hs0)
      rw[he0'.out,hz0'.out] at h12
      exact⟨⟨hK.sp,hK.fi,hK.ct,hK.dk,hK.fl,by show (Sn.H.sl.set s0 (v0+1)).length=_;rw[List.length_set];exact hK.sl⟩,h12,fun j hj=>by
       show dJ (setL (setL Sn.T 0 n e) 1 n e) 0 j=_∧(dJ (setL (setL Sn.T 0 n e) 1 n e) 1 j).k=0
       rw[nN hB.ok hL hn64 hE _ _ (by omega),nN hB.ok hL hn64 hE _ _ (by omega)]
       exact hN.out.2.2 j (by omega)⟩)
     clear hm8 sm8 bx8 fx8 hgk8 hb9 hg9 has hga
     generalize hSx:({ Sn with H:={ Sn.H with sl:=Sn.H.sl.set s0 (v0+1) } }:MW)=Sx at hx sx hkx hkgx hT2 h64a h64b hF12
     obtain⟨gT2,oT2,_,hab2,hgT2B,hkT2,_⟩:=hx.ent (p:=0) (n:=n) (by omega) hn64 h64a
     have hgxT:gx≠gT2:=fun e9=>hkgx.out (.inr (by rw[e9];simp[eO,hab2,oB];right;right;right;right;right;right;right;right;rfl))
     have hgfT:gf≠gT2:=fun e9=>hkx.out (.inr (by rw[e9];simp[eO,hab2,oB];right;right;right;right;right;right;right;right;rfl))
     go_upto_region 12 with (fail)
     refine lu 17 [_,_,_,.v (.slice (some ⟨gT2,oT2,none⟩) 2 Sx.cb),_,_,_,_,.v (.slice (some ⟨gT2,oT2,none⟩) 2 Sx.cb),_,.v (.agg (iM e)),.v (.agg (iM e)),_,.v (.pointer (some ⟨gT2,oT2+n*3,none⟩)),.r 14 ((aR fun _=>True)),_,.v (.pointer (some ⟨gT2,oT2+192+n*3,none⟩))] (Ec S Sx { Sx with T:=setL Sx.T 0 n e } B b w gx gf e (fC (bN p0.ar))) aJ (fun _=>⟨⟨bx,fx1⟩,fun _=>⟨hx,sx⟩,fun h=>(by cases h)⟩) (Qk aJ rfl (Qk aJ rfl (Qf aJ b 12 rfl rfl (ae ?_ (Qk aJ rfl (Qk aJ rfl (Qk aJ rfl (Qf aJ b 12 rfl rfl (ae ?_ (Qk aJ rfl (ae ?_ (ae ?_ (Qr aJ (.pointer (some ⟨gT2,oT2,none⟩)) (fun ρ y W hKn=>(bB (i:=0) rfl (aF rfl hKn) (aF rfl hKn) (by decide) underlying75 ents_size)) rfl rfl (ae ?_ (ae ?_ (Qr aJ (.pointer (some ⟨gT2,oT2+192,none⟩)) (fun ρ y W hKn=>(bB (i:=1) rfl (aF rfl hKn) (aF rfl hKn) (by decide) underlying75 ents_size)) rfl rfl (ae ?_ (aB)))))))))))))))))) (fun _=>rfl) rfl ?_
     ·intro ρ y W L hw hn hLi hLd hb hd
      refine bS aJ (fun _ _ h=>h) hb ?_
      have E93:=hw 93 2 rfl
      have h2:y 2=_:=hd 2 rfl
      have hcc:=nH hb (by simp[fD,setL])
      refine aj (.slice (some ⟨gT2,oT2,none⟩) 2 Sx.cb) (ah rfl) (by simp[execOp,go_sem,bC,E93,h2,hcc,fD,hab2,hT2]) rfl
     ·intro ρ y W L hw hn hLi hLd hb hd
      refine bS aJ (fun _ _ h=>h) hb ?_
      have E98:=hw 98 7 rfl
      have h7:y 7=_:=hd 7 rfl
      have hcc:=nH hb (by simp[fD,setL])
      refine aj (.slice (some ⟨gT2,oT2,none⟩) 2 Sx.cb) (ah rfl) (by simp[execOp,go_sem,bC,E98,h7,hcc,fD,hab2,hT2]) rfl
     ·intro ρ y W L hw hn hLi hLd hb hd
      refine bS aJ (fun _ _ h=>h) hb ?_
      have E4:ρ (.tmp 4) = .pointer (some ⟨gx,0,none⟩):=(hn (.tmp 4) rfl).trans rfl
      refine aj (.agg (iM e)) (ah rfl) (bI rfl E4 hb.1.1 underlying89 rfl entry_size3) rfl
     ·intro ρ y W L hw hn hLi hLd hb hd
      refine bS aJ (fun _ _ h=>h) hb ?_
      have E4:ρ (.tmp 4) = .pointer (some ⟨gx,0,none⟩):=(hn (.tmp 4) rfl).trans rfl
      refine aj (.agg (iM e)) (ah rfl) (bI rfl E4 hb.1.1 underlying89 rfl entry_size3) rfl
     ·intro ρ y W L hw hn hLi hLd hb hd
      refine bS aJ (fun _ _ h=>h) hb ?_
      have E103:=hw 103 12 rfl
      have h12:y 12=_:=hd 12 rfl
      have E95:=hw 95 4 rfl
      have h4:y 4=_:=hd 4 rfl
      have hn9:((64:Int)≤(n:Int))=False:=eq_false (by omega)
      refine aj (.pointer (some ⟨gT2,oT2+n*3,none⟩)) (ah rfl) (by simp[execOp,go_sem,bC,E103,h12,E95,h4,hn64,hn9]) rfl
     ·intro ρ y W L hw hn hLi hLd hb hd;have E104:=hw 104 13 rfl;have h13:y 13=_:=hd 13 rfl;have E101:=hw 101 10 rfl;have h10:y 10=_:=hd 10 rfl
      obtain⟨hm9,hs9⟩:=hb.2.1 hLi
      obtain⟨gQ,oQ,curQ,hQ,hQB,hQk,hQs,_,hQw⟩:=hm9.ent (p:=0) (n:=n) (by omega) hn64 h64a
      cases (hQ.symm.trans hab2)
      rw[Nat.zero_mul,Nat.add_zero] at hQs hQw
      exact kv (ah rfl) (nS _ _ _ rfl gT2 (oT2+n*3) _ (jT e) (E104.trans h13) (E101.trans h10) rfl curQ _ hQk (by rw[eU];exact hQs) (by kernel_rfl) (bv (fJ _))) ⟨⟨hb.1.1.grown (aA _ _ _ _) (fun e9=>hgxT (Option.some.inj e9).symm),hb.1.2.grown (aA _ _ _ _) (fun e9=>hgfT (Option.some.inj e9).symm)⟩,fun h=>(by cases h),fun _=>⟨hQw _ e (hQk.setCells _ _) (aA _ _ _ _),hs9.put (aA _ _ _ _) (.inr (by simp only[eO,hab2];simp[oB];right;right;right;right;right;right;right;right;rfl)) (fun x hx => .inl hx)⟩⟩ trivial
     ·intro ρ y W L hw hn hLi hLd hb hd
      refine bS aJ (fun _ _ h=>h) hb ?_
      have E105:=hw 105 15 rfl
      have h15:y 15=_:=hd 15 rfl
      have E100:=hw 100 9 rfl
      have h9:y 9=_:=hd 9 rfl
      have hn9:((64:Int)≤(n:Int))=False:=eq_false (by omega)
      refine aj (.pointer (some ⟨gT2,oT2+192+n*3,none⟩)) (ah rfl) (by simp[execOp,go_sem,bC,E105,h15,E100,h9,hn64,hn9]) rfl
     intro y W9 hbW9 hRW9
     have hy14:((aR fun _=>True)).r (y 14) W9:=hRW9 14 (by decide)
     clear hRW9
     simp only[bH,bC,List.map_cons,List.map_nil]
     obtain⟨⟨bx9,fx9⟩,_,hq9⟩:=hbW9
     obtain⟨h9,s9⟩:=hq9 rfl
     have hT9:(setL Sx.T 0 n e).length=2:=by unfold setL;rw[List.length_set];exact hT2
     obtain⟨gR,oR',curR,hR,hRB,hRk,hRs,_,hRw⟩:=h9.ent (p:=1) (n:=n) (by show 1<(setL Sx.T 0 n e).length;omega) hn64 (by
      show (dE (setL Sx.T 0 n e) 1).length=64
      rw[mP (by omega),if_neg (by decide)]
      exact h64b)
     have hR:Sx.ab=some ⟨gR,oR',none⟩:=hR
     cases (hR.symm.trans hab2)
     rw[Nat.one_mul] at hRs hRw
     have hRw':=Lib.hid hRw
     clear hRw hq9 hx sx bx fx1
     go_wp2_with (refine az rfl _ _ _ rfl gT2 (oT2+192+n*3) _ (jT e) rfl rfl rfl _ _ hRk (by rw[eU];exact hRs) (by kernel_rfl) (bv (fJ _)) ?_)
     intro w10 hb10 hg10
     have h10:=hRw'.out w10 e hb10 hg10
     have s10:MS w b S w10 { Sx with T:=setL (setL Sx.T 0 n e) 1 n e }:=s9.put hg10 (.inr (by simp only[eO,hab2];simp[oB];right;right;right;right;right;right;right;right;rfl)) (fun x hx => .inl hx)
     have fx10:=fx9.grown hg10 (fun e9=>hgfT (Option.some.inj e9).symm)
     clear h9 s9 bx9 fx9 hRk hb10 hg10
     go_wp2
     go_roundw
     case rel=>exact⟨n+1,_,by omega,by go_num,h10,s10,fx10,hkx,hF12⟩
     case measure=>simp[intOf];omega
    ·have hx:=hm1
     have sx:=sm1
     have bx:=bx1
     have hkx:=hkf
     have hT2:=hTSn
     have h64a:=h64.out 0 (by decide)
     have h64b:=h64.out 1 (by decide)
     have hF12:Hid (BO S5 { Sn with T:=setL (setL Sn.T 0 n e) 1 n e }∧Bd Sn.H.ma (setL (setL Sn.T 0 n e) 1 n e)∧∀j:Nat,n+1≤j→dJ (setL (setL Sn.T 0 n e) 1 n e) 0 j=t0.getD j zEn∧(dJ (setL (setL Sn.T 0 n e) 1 n e) 1 j).k=0):=Lib.hid (by
      have hK:=hN.out.1
      have hB:=hN.out.2.1
      have hL:Sn.H.ma.sp.length=2:=by rw[←hB.ok.len];exact hTSn
      have he0:dJ Sn.T 0 n=e:=by rw[(hN.out.2.2 n (Nat.le_refl _)).1];exact he'.out
      have hE:=sF hB.ok (p:=0) (n:=n) (by omega) hn64
      rw[he0] at hE
      have hk0:e.k=0:=by
       rcases (bV _).1 hE with h9|h9|h9
       ·exact h9.1
       ·exact absurd h9.1 hk1
       ·exact absurd h9.1 hk2
      have h12:=hB.share0 hL hn64 (by rw[he0];exact hk0) (hN.out.2.2 n (Nat.le_refl _)).2
      rw[he0] at h12
      exact⟨⟨hK.sp,hK.fi,hK.ct,hK.dk,hK.fl,hK.sl⟩,h12,fun j hj=>by
       rw[nN hB.ok hL hn64 hE _ _ (by omega),nN hB.ok hL hn64 hE _ _ (by omega)]
       exact hN.out.2.2 j (by omega)⟩)
     generalize hSx:Sn=Sx at hx sx hkx hkgx hT2 h64a h64b hF12
     obtain⟨gT2,oT2,_,hab2,hgT2B,hkT2,_⟩:=hx.ent (p:=0) (n:=n) (by omega) hn64 h64a
     have hgxT:gx≠gT2:=fun e9=>hkgx.out (.inr (by rw[e9];simp[eO,hab2,oB];right;right;right;right;right;right;right;right;rfl))
     have hgfT:gf≠gT2:=fun e9=>hkx.out (.inr (by rw[e9];simp[eO,hab2,oB];right;right;right;right;right;right;right;right;rfl))
     go_upto_region 12 with (fail)
     refine lu 17 [_,_,_,.v (.slice (some ⟨gT2,oT2,none⟩) 2 Sx.cb),_,_,_,_,.v (.slice (some ⟨gT2,oT2,none⟩) 2 Sx.cb),_,.v (.agg (iM e)),.v (.agg (iM e)),_,.v (.pointer (some ⟨gT2,oT2+n*3,none⟩)),.r 14 ((aR fun _=>True)),_,.v (.pointer (some ⟨gT2,oT2+192+n*3,none⟩))] (Ec S Sx { Sx with T:=setL Sx.T 0 n e } B b w gx gf e (fC (bN p0.ar))) aJ (fun _=>⟨⟨bx,fx1⟩,fun _=>⟨hx,sx⟩,fun h=>(by cases h)⟩) (Qk aJ rfl (Qk aJ rfl (Qf aJ b 12 rfl rfl (ae ?_ (Qk aJ rfl (Qk aJ rfl (Qk aJ rfl (Qf aJ b 12 rfl rfl (ae ?_ (Qk aJ rfl (ae ?_ (ae ?_ (Qr aJ (.pointer (some ⟨gT2,oT2,none⟩)) (fun ρ y W hKn=>(bB (i:=0) rfl (aF rfl hKn) (aF rfl hKn) (by decide) underlying75 ents_size)) rfl rfl (ae ?_ (ae ?_ (Qr aJ (.pointer (some ⟨gT2,oT2+192,none⟩)) (fun ρ y W hKn=>(bB (i:=1) rfl (aF rfl hKn) (aF rfl hKn) (by decide) underlying75 ents_size)) rfl rfl (ae ?_ (aB)))))))))))))))))) (fun _=>rfl) rfl ?_
     ·intro ρ y W L hw hn hLi hLd hb hd
      refine bS aJ (fun _ _ h=>h) hb ?_
      have E93:=hw 93 2 rfl
      have h2:y 2=_:=hd 2 rfl
      have hcc:=nH hb (by simp[fD,setL])
      refine aj (.slice (some ⟨gT2,oT2,none⟩) 2 Sx.cb) (ah rfl) (by simp[execOp,go_sem,bC,E93,h2,hcc,fD,hab2,hT2]) rfl
     ·intro ρ y W L hw hn hLi hLd hb hd
      refine bS aJ (fun _ _ h=>h) hb ?_
      have E98:=hw 98 7 rfl
      have h7:y 7=_:=hd 7 rfl
      have hcc:=nH hb (by simp[fD,setL])
      refine aj (.slice (some ⟨gT2,oT2,none⟩) 2 Sx.cb) (ah rfl) (by simp[execOp,go_sem,bC,E98,h7,hcc,fD,hab2,hT2]) rfl
     ·intro ρ y W L hw hn hLi hLd hb hd
      refine bS aJ (fun _ _ h=>h) hb ?_
      have E4:ρ (.tmp 4) = .pointer (some ⟨gx,0,none⟩):=(hn (.tmp 4) rfl).trans rfl
      refine aj (.agg (iM e)) (ah rfl) (bI rfl E4 hb.1.1 underlying89 rfl entry_size3) rfl
     ·intro ρ y W L hw hn hLi hLd hb hd
      refine bS aJ (fun _ _ h=>h) hb ?_
      have E4:ρ (.tmp 4) = .pointer (some ⟨gx,0,none⟩):=(hn (.tmp 4) rfl).trans rfl
      refine aj (.agg (iM e)) (ah rfl) (bI rfl E4 hb.1.1 underlying89 rfl entry_size3) rfl
     ·intro ρ y W L hw hn hLi hLd hb hd
      refine bS aJ (fun _ _ h=>h) hb ?_
      have E103:=hw 103 12 rfl
      have h12:y 12=_:=hd 12 rfl
      have E95:=hw 95 4 rfl
      have h4:y 4=_:=hd 4 rfl
      have hn9:((64:Int)≤(n:Int))=False:=eq_false (by omega)
      refine aj (.pointer (some ⟨gT2,oT2+n*3,none⟩)) (ah rfl) (by simp[execOp,go_sem,bC,E103,h12,E95,h4,hn64,hn9]) rfl
     ·intro ρ y W L hw hn hLi hLd hb hd;have E104:=hw 104 13 rfl;have h13:y 13=_:=hd 13 rfl;have E101:=hw 101 10 rfl;have h10:y 10=_:=hd 10 rfl
      obtain⟨hm9,hs9⟩:=hb.2.1 hLi
      obtain⟨gQ,oQ,curQ,hQ,hQB,hQk,hQs,_,hQw⟩:=hm9.ent (p:=0) (n:=n) (by omega) hn64 h64a
      cases (hQ.symm.trans hab2)
      rw[Nat.zero_mul,Nat.add_zero] at hQs hQw
      exact kv (ah rfl) (nS _ _ _ rfl gT2 (oT2+n*3) _ (jT e) (E104.trans h13) (E101.trans h10) rfl curQ _ hQk (by rw[eU];exact hQs) (by kernel_rfl) (bv (fJ _))) ⟨⟨hb.1.1.grown (aA _ _ _ _) (fun e9=>hgxT (Option.some.inj e9).symm),hb.1.2.grown (aA _ _ _ _) (fun e9=>hgfT (Option.some.inj e9).symm)⟩,fun h=>(by cases h),fun _=>⟨hQw _ e (hQk.setCells _ _) (aA _ _ _ _),hs9.put (aA _ _ _ _) (.inr (by simp only[eO,hab2];simp[oB];right;right;right;right;right;right;right;right;rfl)) (fun x hx => .inl hx)⟩⟩ trivial
     ·intro ρ y W L hw hn hLi hLd hb hd
      refine bS aJ (fun _ _ h=>h) hb ?_
      have E105:=hw 105 15 rfl
      have h15:y 15=_:=hd 15 rfl
      have E100:=hw 100 9 rfl
      have h9:y 9=_:=hd 9 rfl
      have hn9:((64:Int)≤(n:Int))=False:=eq_false (by omega)
      refine aj (.pointer (some ⟨gT2,oT2+192+n*3,none⟩)) (ah rfl) (by simp[execOp,go_sem,bC,E105,h15,E100,h9,hn64,hn9]) rfl
     intro y W9 hbW9 hRW9
     have hy14:((aR fun _=>True)).r (y 14) W9:=hRW9 14 (by decide)
     clear hRW9
     simp only[bH,bC,List.map_cons,List.map_nil]
     obtain⟨⟨bx9,fx9⟩,_,hq9⟩:=hbW9
     obtain⟨h9,s9⟩:=hq9 rfl
     have hT9:(setL Sx.T 0 n e).length=2:=by unfold setL;rw[List.length_set];exact hT2
     obtain⟨gR,oR',curR,hR,hRB,hRk,hRs,_,hRw⟩:=h9.ent (p:=1) (n:=n) (by show 1<(setL Sx.T 0 n e).length;omega) hn64 (by
      show (dE (setL Sx.T 0 n e) 1).length=64
      rw[mP (by omega),if_neg (by decide)]
      exact h64b)
     have hR:Sx.ab=some ⟨gR,oR',none⟩:=hR
     cases (hR.symm.trans hab2)
     rw[Nat.one_mul] at hRs hRw
     have hRw':=Lib.hid hRw
     clear hRw hq9 hx sx bx fx1
     go_wp2_with (refine az rfl _ _ _ rfl gT2 (oT2+192+n*3) _ (jT e) rfl rfl rfl _ _ hRk (by rw[eU];exact hRs) (by kernel_rfl) (bv (fJ _)) ?_)
     intro w10 hb10 hg10
     have h10:=hRw'.out w10 e hb10 hg10
     have s10:MS w b S w10 { Sx with T:=setL (setL Sx.T 0 n e) 1 n e }:=s9.put hg10 (.inr (by simp only[eO,hab2];simp[oB];right;right;right;right;right;right;right;right;rfl)) (fun x hx => .inl hx)
     have fx10:=fx9.grown hg10 (fun e9=>hgfT (Option.some.inj e9).symm)
     clear h9 s9 bx9 fx9 hRk hb10 hg10
     go_wp2
     go_roundw
     case rel=>exact⟨n+1,_,by omega,by go_num,h10,s10,fx10,hkx,hF12⟩
     case measure=>simp[intOf];omega
  ·have hni:¬(n:Int)<64:=by omega
   go_wp2
   refine bodyPost_ret (v:=.tuple #[]) (by simp[results,go_sem,results34]) rfl ?_
   have hK:=hN.out.1
   have hM:=hmore.out
   refine⟨Sn,rfl,hm,hs,⟨hN.out.2.1,fun p hp n g hg => ?_,hK.fi.trans hM.fi,hK.ct.trans hM.ct,hK.dk.trans hM.dk,by rw[hK.sp];exact hM.sp,hK.fl.trans hM.fs⟩⟩
   rw[hK.sp] at hp
   rw[hK.fi]
   exact hM.fm p hp n g hg
structure Fb (ct:Nat) (bl:List Page) (q:List (Int × Page)) (fs:List Fi) (x:List Int):Prop where
 cl:bl.length=ct∧ct≤80
 ok:∀f∈fs,yM ct f
 nd:(iF (fs.flatMap Fi.b++x)).Nodup
 xb:∀b∈x,-1≤b∧b<ct
 tr:∀b:Int,0≤b→b<ct→b∈fs.flatMap Fi.b++x∨bl.getD b.toNat zPg=zPg
 qb:∀p∈q,p.1∈fs.flatMap Fi.b++x∧0≤p.1∧p.1<ct
 ql:q.length≤12*fs.length+x.length
theorem Fb.start (h:ct≤80):Fb ct (List.replicate ct zPg) [] [] [] where
 cl:=⟨by simp,h⟩
 ok:=fun f hf=>by cases hf
 nd:=by simp[iF]
 xb:=fun b hb=>by cases hb
 tr:=fun b h0 h1 => .inr (by rw[List.getD_eq_getElem?_getD,List.getElem?_replicate,if_pos (by omega)];rfl)
 qb:=fun p hp=>by cases hp
 ql:=by simp
theorem Fb.none {q:List (Int × Page)} {x:List Int} (h:Fb ct bl q fs x):Fb ct bl q fs (x++[-1]) where
 cl:=h.cl
 ok:=h.ok
 nd:=by
  have e:iF (fs.flatMap Fi.b++(x++[-1]))=iF (fs.flatMap Fi.b++x):=by rw[←List.append_assoc,oG];simp[iF]
  rw[e];exact h.nd
 xb:=fun b hb=>by
  rcases List.mem_append.1 hb with hb|hb
  ·exact h.xb b hb
  ·rw[List.mem_singleton.1 hb];omega
 tr:=fun b h0 h1=>(h.tr b h0 h1).imp (fun hb=>by rw[←List.append_assoc];exact List.mem_append_left _ hb) id
 qb:=fun p hp=>⟨by rw[←List.append_assoc];exact List.mem_append_left _ (h.qb p hp).1,(h.qb p hp).2⟩
 ql:=by have:=h.ql;simp;omega
theorem Fb.some {q:List (Int × Page)} {x:List Int} (h:Fb ct bl q fs x) (hn:n<ct) (hu:¬(n:Int)∈fs.flatMap Fi.b++x) (P:Page):Fb ct (bl.set n P) q fs (x++[(n:Int)]) where
 cl:=⟨by rw[List.length_set];exact h.cl.1,h.cl.2⟩
 ok:=h.ok
 nd:=by
  have e:iF (fs.flatMap Fi.b++(x++[(n:Int)]))=iF (fs.flatMap Fi.b++x)++[(n:Int)]:=by rw[←List.append_assoc,oG];simp[iF]
  rw[e]
  refine List.nodup_append.2 ⟨h.nd,by simp,fun a ha b hb e => ?_⟩
  rw[List.mem_singleton.1 hb] at e
  subst e
  exact hu (fE.1 ha).1
 xb:=fun b hb=>by
  rcases List.mem_append.1 hb with hb|hb
  ·exact h.xb b hb
  ·rw[List.mem_singleton.1 hb];omega
 tr:=fun b h0 h1=>by
  by_cases e:b=(n:Int)
  ·subst e;exact .inl (by simp)
  ·rcases h.tr b h0 h1 with hb|hb
   ·exact .inl (by rw[←List.append_assoc];exact List.mem_append_left _ hb)
   ·refine .inr ?_
    rw[List.getD_eq_getElem?_getD,List.getElem?_set_ne (by omega),←List.getD_eq_getElem?_getD]
    exact hb
 qb:=fun p hp=>⟨by rw[←List.append_assoc];exact List.mem_append_left _ (h.qb p hp).1,(h.qb p hp).2⟩
 ql:=by have:=h.ql;simp;omega
theorem Fb.wait {q:List (Int × Page)} {x:List Int} (h:Fb ct bl q fs x) (hn:n<ct) (hu:¬(n:Int)∈fs.flatMap Fi.b++x) (P:Page):Fb ct (bl.set n P) (q++[((n:Int),P)]) fs (x++[(n:Int)]):=
 have k:=h.some hn hu P
 { k with
  qb:=fun p hp=>by
   rcases List.mem_append.1 hp with hp|hp
   ·exact k.qb p hp
   ·rw[List.mem_singleton.1 hp]
    exact⟨by simp,by show (0:Int)≤n;omega,by show (n:Int)<ct;omega⟩
  ql:=by have:=h.ql;simp;omega }
theorem Fb.file {q:List (Int × Page)} {x:List Int} (h:Fb ct bl q fs x) {s:Int} (h0:0≤s) (h1:s≤96) (hl:(x.length:Int)=dO s):Fb ct bl q (fs++[⟨s,x⟩]) []:=by
 have e:(fs++[(⟨s,x⟩:Fi)]).flatMap Fi.b++[]=fs.flatMap Fi.b++x:=by simp
 refine⟨h.cl,fun f hf => ?_,by rw[e];exact h.nd,fun b hb=>(by cases hb),by rw[e];exact h.tr,by rw[e];exact h.qb,?_⟩
 ·rcases List.mem_append.1 hf with hf|hf
  ·exact h.ok f hf
  ·rw[List.mem_singleton.1 hf];exact⟨h0,h1,hl,h.xb⟩
 ·have:=h.ql
  have e2:dO s≤12:=by unfold dO;split<;>omega
  have e3:(fs++[(⟨s,x⟩:Fi)]).length=fs.length+1:=by simp
  rw[e3]
  simp only[List.length_nil]
  omega
def vw (f s ct:Nat) (bl:List Page) (q:List (Int × Page)) (fs:List Fi):Ma:=⟨⟨List.replicate f frZ,0⟩,List.replicate s 0,⟨List.replicate s zPg,[]⟩,⟨bl,q⟩,⟨fs,ct⟩,[],[]⟩
theorem Fb.bd {s:Nat} {q:List (Int × Page)} (h:Fb ct bl q fs []) (hl:fs.length≤5) (hf:f≤40) (hs:s≤60):Bd (vw f s ct bl q fs) []:=by
 have hfr:∀i,i<f→aO (vw f s ct bl q fs) i=frZ:=fun i hi=>by
  unfold aO vw
  rw[List.getD_eq_getElem?_getD,List.getElem?_replicate,if_pos hi];rfl
 have hen:∀p n,(ent (vw f s ct bl q fs) p n).k=0:=fun p n=>by
  unfold ent
  rw[mr (by simp[vw])]
  show (dn zTb n).k=0
  rw[tN];rfl
 have hw:aS ⟨fs,(ct:Int)⟩=0:=iK.2 ⟨⟨hl,by show (0:Int)≤ct;omega,by show (ct:Int)≤80;have:=h.cl.2;omega⟩,h.ok,by have:=h.nd;rw[List.append_nil] at this;exact this⟩
 have hdk:aZ ⟨bl,q⟩=0:=(gI _).2 ⟨by show bl.length≤80;have:=h.cl;omega,by show q.length≤400;have:=h.ql;simp only[List.length_nil] at this;omega,fun x hx=>by
  have:=(h.qb x hx).2
  have e:bl.length=ct:=h.cl.1
  show 0≤x.1∧x.1<(bl.length:Int)
  omega⟩
 have hsw:aZ ⟨List.replicate s zPg,[]⟩=0:=(gI _).2 ⟨by simp;omega,by simp,fun x hx=>(by cases hx)⟩
 have hsl:bU (List.replicate s (0:Int))=0:=Ai (by simp;exact hs) fun x hx=>by
  rw[(List.mem_replicate.1 hx).2];decide
 have hm:bJ ⟨List.replicate f frZ,0⟩=0:=(dB _).2 ⟨by simp;exact hf,fun x hx=>by rw[(List.mem_replicate.1 hx).2];decide,Int.le_refl _,.inl rfl⟩
 have hmm:dw (vw f s ct bl q fs) []=vw f s ct bl q fs:=rfl
 have hh:∀kd i,cz (vw f s ct bl q fs) kd i=0:=fun _ _=>rfl
 have hc:∀i,rT (vw f s ct bl q fs) i=0:=fun _=>rfl
 refine⟨⟨rfl,fun t ht=>(by cases ht),fun t ht=>(by cases ht)⟩,?_,?_⟩
 ·rw[hmm]
  refine⟨⟨hm,hsl,hsw,hdk,hw,by simp[vw],by have:=h.cl.1;show (bl.length:Int)=ct;omega,by simp[vw],fun s hs=>(by cases hs),fun s hs=>(by cases hs)⟩,⟨fun b h0 h1 => ?_,fun p hp => ?_⟩,fun p _=>⟨by rw[mr (by simp[vw])];rfl,fun n=>hen p n⟩,⟨fun c hc=>(by cases hc),fun c hc=>(by cases hc),fun c hc=>(by cases hc),List.Pairwise.nil⟩,fun p n hk=>absurd (hen p n) hk,fun i hi => ?_,fun i hi h0 => ?_,fun i hi => ?_⟩
  ·have e:(vw f s ct bl q fs).dk.blocks.length=ct:=h.cl.1
   have:=h.tr b h0 (by omega)
   rw[List.append_nil] at this
   exact this
  ·have:=(h.qb p hp).1
   rw[List.append_nil] at this
   exact this
  ·rw[hfr i (by have e:(vw f s ct bl q fs).m.fs.length=f:=List.length_replicate;omega),hh,hc];rfl
  ·rw[hfr i (by have e:(vw f s ct bl q fs).m.fs.length=f:=List.length_replicate;omega)] at h0
   exact absurd h0 (by decide)
  ·rw[hh]
   have e:(vw f s ct bl q fs).sl.length=s:=List.length_replicate
   unfold lV
   show (List.replicate s (0:Int)).getD i 0=_
   rw[List.getD_eq_getElem?_getD,List.getElem?_replicate,if_pos (by omega)];rfl
 ·rw[hmm]
  refine⟨fun c hc=>(by cases hc),fun c hc=>(by cases hc),fun i hi hd => ?_⟩
  rw[hfr i (by have e:(vw f s ct bl q fs).m.fs.length=f:=List.length_replicate;omega)] at hd
  exact absurd hd (by decide)
def tabs (m:Ma) (T:List (List En)):Nat→Ma
 | 0=>m
 | q+1=>setTb (tabs m T q) q (dZ (dE T q))
theorem take_set {α:Type} {F O:List α} (hl:F.length=O.length) (hq:q<O.length):(F.take q++O.drop q).set q (F[q]'(by omega))=F.take (q+1)++O.drop (q+1):=by
 have e1:(F.take q).length=q:=by rw[List.length_take];omega
 rw[List.set_append,if_neg (by omega),e1,Nat.sub_self,List.drop_eq_getElem_cons hq,List.set_cons_zero,List.take_succ_eq_append_getElem (by omega),List.append_assoc]
 rfl
theorem FR {m:Ma} {T:List (List En)}:∀q,q≤m.sp.length→tabs m T q = { m with sp:=(dw m T).sp.take q++m.sp.drop q }
 | 0,_=>by simp[tabs]
 | q+1,h=>by
  have ih:=FR (m:=m) (T:=T) q (by omega)
  have hF:(dw m T).sp.length=m.sp.length:=iZ
  have e1:((dw m T).sp.take q).length=q:=by rw[List.length_take];omega
  have hsp:dR (tabs m T q) q=m.sp[q]'(by omega):=by
   rw[ih]
   unfold dR
   show ((dw m T).sp.take q++m.sp.drop q).getD q zSp=_
   rw[List.getD_eq_getElem?_getD,List.getElem?_append_right (by omega),e1,Nat.sub_self,List.getElem?_drop,Nat.add_zero,List.getElem?_eq_getElem (by omega)];rfl
  have hFq:(dw m T).sp[q]'(by omega) = { m.sp[q]'(by omega) with tb:=dZ (dE T q) }:=by
   have h1:=uI (m:=m) (T:=T) (p:=q) (by omega)
   have h2:dR m q=m.sp[q]'(by omega):=by unfold dR;rw[List.getD_eq_getElem?_getD,List.getElem?_eq_getElem (by omega)];rfl
   have h3:dR (dw m T) q=(dw m T).sp[q]'(by omega):=by unfold dR;rw[List.getD_eq_getElem?_getD,List.getElem?_eq_getElem (by omega)];rfl
   rw[h2,h3] at h1
   exact h1
  show setTb (tabs m T q) q (dZ (dE T q))=_
  unfold setTb
  rw[hsp,ih,←hFq]
  show ({ m with sp:=((dw m T).sp.take q++m.sp.drop q).set q _ }:Ma)=_
  rw[take_set hF (by omega)]
theorem Md {T:List (List En)}:tabs m T m.sp.length=dw m T:=by
 rw[FR _ (Nat.le_refl _),List.drop_length,List.append_nil,List.take_of_length_le (by rw[iZ];exact Nat.le_refl _)]
 rfl
def MZ (l:List En):Array Value:=(l.flatMap jT).toArray
theorem LM (l:List En):(MZ l).size=l.length*3:=by
 unfold MZ;rw[List.size_toArray,vP]
theorem arr64_size:(Tryz.prog.info? 90).map (·.size)=some 192:=by kernel_rfl
theorem mD.app {t:Tb} (h:mD w B cs t) (hq:q<8) {l:List En} (hv:cs[q]?=some v) (ho:Own w' B 89 3 v' l.length (l.flatMap jT)) (hgr:w.grownBy w' v.ownBlock)
 (hc:v'.ownBlock=v.ownBlock∨∀g,v'.ownBlock=some g→w.heap.size≤g):mD w' B (cs.setIfInBounds q v') (t.set q l) where
 sz:=by simp[h.sz]
 own:=fun k hk=>by
  by_cases e:k=q
  ·subst e
   exact⟨v',by rw[Array.getElem?_setIfInBounds_self_of_lt (by rw[h.sz];exact hk)],by simpa using ho⟩
  ·obtain⟨u,h1,h2⟩:=h.own k hk
   refine⟨u,by rw[Array.getElem?_setIfInBounds_ne (fun e2=>e e2.symm)];exact h1,?_⟩
   rw[Vector.getElem_set_ne hq hk (fun e2=>e e2.symm)]
   refine h2.grown hgr fun g hg he => ?_
   rcases Nat.lt_or_gt_of_ne e with hlt|hlt
   ·exact h.apart k q u v hlt h1 hv g hg he
   ·exact h.apart q k v u hlt hv h1 g he hg
 apart:=fun j k x y hjk hx hy g hgx hgy=>by
  have key:∀j u,j≠q→cs[j]?=some u→v'.ownBlock=some g→u.ownBlock=some g→False:=by
   intro j u hjq hu hg hgu
   have hj8:j<8:=by
    rcases Nat.lt_or_ge j 8 with hk|hk
    ·exact hk
    ·rw[Array.getElem?_eq_none (by rw[h.sz];exact hk)] at hu;cases hu
   obtain⟨u',h1,h2⟩:=h.own j hj8
   rw[hu] at h1
   cases h1
   rcases hc with hc|hc
   ·rw[hc] at hg
    rcases Nat.lt_or_gt_of_ne hjq with hlt|hlt
    ·exact h.apart j q u v hlt hu hv g hgu hg
    ·exact h.apart q j v u hlt hv hu g hg hgu
   ·have h3:=hc g hg
    have h4:=FJ h2 g hgu
    omega
  by_cases e:j=q
  ·subst e
   rw[Array.getElem?_setIfInBounds_self_of_lt (by rw[h.sz];exact hq)] at hx
   cases hx
   rw[Array.getElem?_setIfInBounds_ne (by omega)] at hy
   exact key k y (by omega) hy hgx hgy
  ·rw[Array.getElem?_setIfInBounds_ne (fun e2=>e e2.symm)] at hx
   by_cases e2:k=q
   ·subst e2
    rw[Array.getElem?_setIfInBounds_self_of_lt (by rw[h.sz];exact hq)] at hy
    cases hy
    exact key j x e hx hgy hgx
   ·rw[Array.getElem?_setIfInBounds_ne (fun e3=>e2 e3.symm)] at hy
    exact h.apart j k x y hjk hx hy g hgx hgy
theorem KM {l:List En} (h:aD w b (MZ l) T) (hE:l[k]?=some E):dA w (some ⟨b,k*3,none⟩) (jT E):=by
 intro i u hi
 refine⟨b,k*3,rfl,?_⟩
 rw[h.cell]
 have hk:k<l.length:=(List.getElem?_eq_some_iff.1 hE).1
 have hl:l[k]=E:=(List.getElem?_eq_some_iff.1 hE).2
 have:=flat_get jT 3 eU l k hk i u (by rw[hl];exact hi)
 simpa[MZ] using this
theorem DT (l:List En) (w:World) (hl:l.length=64):Calls Tryz.prog 36 #[.agg (MZ l)] w fun r w' => ∃cs,r = .returned (.agg cs)∧mD w' w.heap.size cs (dZ l)∧Below w.heap.size w w':=by
 have HLEN:=Lib.hid hl
 clear hl
 go_enter func36,ntmps36
 go_upto_region 2 with (fail)
 refine KQ (fun W=>Code.wp _ _ _ _ W) fun W0 hb0 hx0 hres0 ho0 hs0 => ?_
 clear hs0
 have hO0:mD W0 w.heap.size #[.slice none 0 0,.slice none 0 0,.slice none 0 0,.slice none 0 0,.slice none 0 0,.slice none 0 0,.slice none 0 0,.slice none 0 0] zTb:=ww _ _
 have hT0:Hid (zK l 0 [] zTb):=Lib.hid zK.start
 go_wp2
 go_loopw [8] (fun i wr => ∃(k:Nat) (ca:Array Value) (t:Tb),k≤8∧i = .int .i64 k∧Below w.heap.size w wr∧aD wr w.heap.size (MZ l) 90∧aD wr (w.heap.size+1) #[.slice none 0 0,.slice none 0 0,.slice none 0 0,.slice none 0 0,.slice none 0 0,.slice none 0 0,.slice none 0 0,.slice none 0 0] 53∧aD wr (w.heap.size+2) ca 53∧mD wr w.heap.size ca t∧Hid (zK l k [] t)) (fun i _=>8-(intOf i).toNat)
 case atStart=>exact⟨0,_,_,Nat.zero_le _,rfl,hb0,hx0,hres0,ho0,hO0,hT0⟩
 case round=>
  obtain⟨k,ca,t,hk,rfl,hbr,hx,hres,ho,hO,hT⟩:=hrel
  clear hb0 hx0 hres0 ho0 hO0 hT0
  by_cases hlt:k<8
  ·have hd8:decide ((k:Int)<8)=true:=by simp;omega
   go_wp2
   go_loopw [6,5] (fun i s wr' => ∃(j:Nat),j≤8∧i = .int .i64 j∧s = .bool (rP l k j)∧wr' = wr) (fun i _ _=>8-(intOf i).toNat)
   case atStart=>exact⟨0,Nat.zero_le _,rfl,rfl,rfl⟩
   case round=>
    obtain⟨j,hj,rfl,rfl,rfl⟩:=hrel
    by_cases hjl:j<8
    ·have hd9:decide ((j:Int)<8)=true:=by simp;omega
     obtain⟨E,hE,hP⟩:=CW HLEN.out hlt hjl
     have hcE:=(KM hx hE) 0 (.int .i64 E.k) rfl
     obtain⟨_,_,e1,hc0⟩:=hcE
     simp only[Option.some.injEq,Addr.mk.injEq,and_true] at e1
     obtain⟨rfl,rfl⟩:=e1
     rw[Nat.add_zero] at hc0
     have hm1:(8:Int)*(k:Int)+(j:Int)<64:=by omega
     have hst:Hid (rP l k (j+1)=(rP l k j||decide (0<E.k))):=Lib.hid (by unfold rP;rw[hP,List.any_append];simp[Ap])
     clear hE hP
     cases hs:rP l k j
     all_goals
      rw[hs] at hst
      go_wp2
      go_roundw
      case rel=>exact⟨j+1,by omega,by go_num,by rw[hst.out];first | rfl | (congr 1;rw[Bool.eq_iff_iff];simp),trivial⟩
      case measure=>simp[intOf];omega
    ·obtain rfl:j=8:=by omega
     rw[show ((8:Nat):Int)=8 from rfl]
     cases hsome:rP l k 8
     ·have hhalf:=Lib.hid (Nw hsome)
      clear hsome
      go_wp2
      go_loopw [7] (fun i wr'=>i = .int .i64 0∧wr' = wr) (fun _ _=>0)
      case atStart=>exact⟨rfl,rfl⟩
      case round=>
       obtain⟨rfl,rfl⟩:=hrel
       have hTn:Hid (zK l (k+1) [] t):=Lib.hid (zK.next (by rw[hhalf.out];exact hT.out) hlt)
       go_wp2
       go_roundw
       case rel=>exact⟨k+1,ca,t,by omega,by go_num,hbr,hx,hres,ho,hO,hTn⟩
       case measure=>simp[intOf];omega
     ·have hhalf:=Lib.hid (LB hsome)
      clear hsome
      have hT0:Hid (zK l k ((l.drop (8*k)).take 0) t):=hT
      go_wp2
      go_loopw [7] (fun i wr' => ∃(j:Nat) (ca' : Array Value) (t' : Tb),j≤8∧i = .int .i64 j∧Below w.heap.size w wr'∧aD wr' w.heap.size (MZ l) 90∧aD wr' (w.heap.size+1) #[.slice none 0 0,.slice none 0 0,.slice none 0 0,.slice none 0 0,.slice none 0 0,.slice none 0 0,.slice none 0 0,.slice none 0 0] 53∧aD wr' (w.heap.size+2) ca' 53∧mD wr' w.heap.size ca' t'∧Hid (zK l k ((l.drop (8*k)).take j) t')) (fun i _=>8-(intOf i).toNat)
      case atStart=>exact⟨0,ca,t,Nat.zero_le _,rfl,hbr,hx,hres,ho,hO,hT0⟩
      case round=>
       obtain⟨j,ca',t',hj,rfl,hbr2,hx2,hres2,ho2,hO2,hT2⟩:=hrel
       clear hbr hx hres ho hO hT hT0
       by_cases hjl:j<8
       ·have hd9:decide ((j:Int)<8)=true:=by simp;omega
        obtain⟨E,hE,hP⟩:=CW HLEN.out hlt hjl
        have hrE:=KM hx2 hE
        have hm1:(8:Int)*(k:Int)+(j:Int)<64:=by omega
        have hm0:¬(8:Int)*(k:Int)+(j:Int)<0:=by omega
        have hk8:(k:Int)<8:=by omega
        have hmul:IntKind.i64.wrap (8*(k:Int))=8*(k:Int):=IntWalk.i64_in _ (by omega)
        have hadd:IntKind.i64.wrap (8*(k:Int)+(j:Int))=8*(k:Int)+(j:Int):=IntWalk.i64_in _ (by omega)
        have hnn:(8*(k:Int)+(j:Int)).toNat=8*k+j:=by omega
        have hP':=Lib.hid hP
        obtain⟨v,hv,hown⟩:=hO2.own k hlt
        have hv':=Lib.hid hv
        have hpl:t'[k].length=j:=by rw[hT2.out.at' hlt];exact xE HLEN.out hlt (by omega)
        obtain⟨xa,xc,rfl,hxle,hxmx,hxnil,hxrd⟩:=hown.rd
        have HE:=Lib.hid hE
        clear hE hP hv
        go_upto_region 13 with (fail)
        refine Dr 11 12 [(0,.int .i64 k)] [anyR,oV (.int .i64 k),oV (.pointer (some ⟨w.heap.size+2,k,none⟩)),oV (.slice xa t'[k].length xc),oV (.int .i64 k),oV (.int .i64 (8*(k:Int))),oV (.int .i64 j),oV (.int .i64 (8*(k:Int)+(j:Int))),oV (.pointer (some ⟨w.heap.size,(8*k+j)*3,none⟩)),oV (.agg (iM E)),(QA 1 (jT E))] (by kernel_rfl) (by kernel_rfl) (by kernel_rfl) (by kernel_rfl) (by kernel_rfl) (by kernel_rfl) (by decide) (by decide) _ rfl (by kernel_rfl) (ae ?_ (ae ?_ (ae ?_ (ae ?_ (ae ?_ (ae ?_ (ae ?_ (ae ?_ (ae ?_ (ae ?_ (ae ?_ (aB)))))))))))) (aB) rfl ?_
        ·refine Ij rfl ?_
         intro ρ y W hw hn hV
         have E4:ρ (.tmp 4) = .int .i64 k:=(hn (.tmp 4) rfl).trans rfl
         exact⟨(ah rfl),(run_move (.inl rfl) E4)⟩
        ·refine bn rfl ?_
         intro ρ y W hw hn hb hd
         have E4:ρ (.tmp 4) = .int .i64 k:=(hn (.tmp 4) rfl).trans rfl
         refine aj (.int .i64 k) (ah rfl) (run_move (.inl rfl) E4) rfl
        ·refine bn rfl ?_
         intro ρ y W hw hn hb hd
         have E3:ρ (.tmp 3) = .pointer (some ⟨w.heap.size+2,0,none⟩):=(hn (.tmp 3) rfl).trans rfl
         have E34:=hw 34 1 rfl
         have h1:y 1 = .int .i64 k:=hd 1 rfl
         refine aj (.pointer (some ⟨w.heap.size+2,k,none⟩)) (ah rfl) (by simp[execOp,go_sem,E3,E34,h1,underlying53,hk8]) rfl
        ·refine bn rfl ?_
         intro ρ y W hw hn hb hd
         have E35:=hw 35 2 rfl
         have h2:y 2 = .pointer (some ⟨w.heap.size+2,k,none⟩):=hd 2 rfl
         refine aj (.slice xa t'[k].length xc) (ah rfl) (by simp[execOp,go_sem,E35,h2,(((ho2.ext hb).cell k).trans hv'.out),underlying51]) rfl
        ·refine bn rfl ?_
         intro ρ y W hw hn hb hd
         have E4:ρ (.tmp 4) = .int .i64 k:=(hn (.tmp 4) rfl).trans rfl
         refine aj (.int .i64 k) (ah rfl) (run_move (.inl rfl) E4) rfl
        ·refine bn rfl ?_
         intro ρ y W hw hn hb hd
         have E37:=hw 37 4 rfl
         have h4:y 4 = .int .i64 k:=hd 4 rfl
         have EC:∀v,ρ (.const v)=v:=fun v=>hn (.const v) trivial
         refine aj (.int .i64 (8*(k:Int))) (ah rfl) (by simp[execOp,go_sem,E37,h4,EC,hmul]) rfl
        ·refine bn rfl ?_
         intro ρ y W hw hn hb hd
         have E7:ρ (.tmp 7) = .int .i64 j:=(hn (.tmp 7) rfl).trans rfl
         refine aj (.int .i64 j) (ah rfl) (run_move (.inl rfl) E7) rfl
        ·refine bn rfl ?_
         intro ρ y W hw hn hb hd
         have E38:=hw 38 5 rfl
         have h5:y 5 = .int .i64 (8*(k:Int)):=hd 5 rfl
         have E39:=hw 39 6 rfl
         have h6:y 6 = .int .i64 j:=hd 6 rfl
         refine aj (.int .i64 (8*(k:Int)+(j:Int))) (ah rfl) (by simp[execOp,go_sem,E38,h5,E39,h6,hadd]) rfl
        ·refine bn rfl ?_
         intro ρ y W hw hn hb hd
         have E1:ρ (.tmp 1) = .pointer (some ⟨w.heap.size,0,none⟩):=(hn (.tmp 1) rfl).trans rfl
         have E40:=hw 40 7 rfl
         have h7:y 7 = .int .i64 (8*(k:Int)+(j:Int)):=hd 7 rfl
         refine aj (.pointer (some ⟨w.heap.size,(8*k+j)*3,none⟩)) (ah rfl) (by simp[execOp,go_sem,E1,E40,h7,underlying90,hm1,hm0,hnn]) rfl
        ·refine bn rfl ?_
         intro ρ y W hw hn hb hd
         have E41:=hw 41 8 rfl
         have h8:y 8 = .pointer (some ⟨w.heap.size,(8*k+j)*3,none⟩):=hd 8 rfl
         refine aj (.agg (iM E)) (ah rfl) (bu rfl (E41.trans h8) (vs:=jT E) (hrE.below hb) underlying89 rfl entry_size) rfl
        ·refine bn rfl ?_
         intro ρ y W hw hn hb hd
         have E42:=hw 42 9 rfl
         have h9:y 9 = .agg (iM E):=hd 9 rfl
         refine iG (.slice (some ⟨W.heap.size,0,none⟩) 1 1) (ah rfl) (by simp[execOp,go_sem,E42,h9,iM]) ((Below.refl _ _).alloc (Nat.le_refl _) (.cells (iM E) 89)) ?_
         exact⟨_,_,rfl,Nat.le_refl _,by unfold maxLen;omega,fun e=>(by cases e),dA.new _ _ _⟩
        intro ρ y WA o ho hw hn hV hbWA hRWA
        cases ho
        have hy0:y 0 = .int .i64 k:=hV 0 _ rfl
        have hy1:y 1 = .int .i64 k:=hRWA 1 (by decide)
        have hy2:y 2 = .pointer (some ⟨w.heap.size+2,k,none⟩):=hRWA 2 (by decide)
        have hy3:y 3 = .slice xa t'[k].length xc:=hRWA 3 (by decide)
        have hy4:y 4 = .int .i64 k:=hRWA 4 (by decide)
        have hy5:y 5 = .int .i64 (8*(k:Int)):=hRWA 5 (by decide)
        have hy6:y 6 = .int .i64 j:=hRWA 6 (by decide)
        have hy7:y 7 = .int .i64 (8*(k:Int)+(j:Int)):=hRWA 7 (by decide)
        have hy8:y 8 = .pointer (some ⟨w.heap.size,(8*k+j)*3,none⟩):=hRWA 8 (by decide)
        have hy9:y 9 = .agg (iM E):=hRWA 9 (by decide)
        obtain⟨ya10,yc10,hy10,yle10,ymx10,ynil10,yrd10⟩:=hRWA 10 (by decide)
        have E36:=hw 36 3 rfl
        rw[hy3] at E36
        have E43:=hw 43 10 rfl
        rw[hy10] at E43
        have EC:∀v,ρ (.const v)=v:=fun v=>hn (.const v) trivial
        have EF:∀f,ρ (.func f) = .func (.func f) #[] #[]:=fun f=>hn (.func f) trivial
        refine Bi (ah rfl) (jq (.tmp 36) (.tmp 43) 51 rfl w.heap.size 89 _ 3 24 underlying51 entry_info rfl (by decide) _ _ _ E36 (hown.below hbWA) ya10 1 yc10 (jT E) E43 ynil10 yle10 rfl yrd10 (xH E) (by unfold maxLen;omega) (by omega) (Nat.le_trans hbr2.size hbWA.size)) ?_
        rintro v2 w4 ⟨hown4,hgr4,hcase4⟩
        clear hRWA hw hn hV
        simp only[lay,Nat.reduceAdd,Nat.reduceLT,Nat.reduceEqDiff,reduceIte,decide_true,decide_false,if_true,Bool.false_eq_true,if_false,List.setIfInBounds_toArray,List.set_cons_zero,List.set_cons_succ,List.drop_succ_cons,List.drop_zero,List.drop_nil,hy0,hy1,hy2,hy3,hy4,hy5,hy6,hy7,hy8,hy9,hy10]
        clear hy0 hy1 hy2 hy3 hy4 hy5 hy6 hy7 hy8 hy9 hy10
        have hbelA:=ag hbr2 hbWA
        have hownA:=hown.below hbWA
        have ho4:=iR (ho2.ext hbWA) hownA (by decide) hgr4
        have hx4:=iR (hx2.ext hbWA) hownA (by decide) hgr4
        have hres4:=iR (hres2.ext hbWA) hownA (by decide) hgr4
        have hbel4:=hbelA.grown hgr4 hbelA.size (fun k hk=>hownA.ge k hk)
        have hown5:Own w4 w.heap.size 89 3 v2 (t'[k]++[E]).length ((t'[k]++[E]).flatMap jT):=by
         rw[List.length_append,List.flatMap_append]
         simpa using hown4
        have hO4:=(hO2.below hbWA).app hlt hv'.out hown5 hgr4 hcase4
        have hT3:Hid (zK l k ((l.drop (8*k)).take (j+1)) (t'.set k (t'[k]++[E]))):=Lib.hid (by
         have:=hT2.out.set (h2:=(l.drop (8*k)).take (j+1)) hlt
         have e:t'[k]++[E]=(l.drop (8*k)).take (j+1):=by rw[hP'.out,hT2.out.at' hlt]
         rw[e]
         exact this)
        have hsz2:=hO2.sz
        have hone2:∀u∈[v2],u.oneCell' = true:=by
         obtain⟨_,_,rfl,_⟩:=hown4.rd
         intro u hu
         cases List.mem_singleton.1 hu
         rfl
        have hcv2:(v2.cells.toList:List Value)=[v2]:=by
         obtain⟨_,_,rfl,_⟩:=hown4.rd
         rfl
        clear hbelA hownA hown4 hown5 hcase4 hgr4 hbWA hx2 hres2 ho2 hO2 hT2 hown hrE hbr2 yrd10
        go_wp2_with (refine az rfl _ (.tmp 45) (.tmp 44) rfl (w.heap.size+2) k _ [v2] rfl rfl hcv2 _ _ ho4 (by rw[hsz2];exact hlt) slent_size hone2 ?_)
        intro w5 ho5 hgr5
        rw[Pw.putAt_one] at ho5
        have hO5:=hO4.keep ho4 (by decide) hgr5
        have hx5:=aW hx4 ho4 (by decide) hgr5
        have hres5:aD w5 (w.heap.size+1) _ _:=hres4.grown hgr5 (fun e=>by have:=Option.some.inj e;omega)
        have hbel5:=hbel4.grown hgr5 hbel4.size (fun k hk=>by cases hk;omega)
        clear ho4 hx4 hres4 hbel4 hO4 hgr5
        go_wp2
        go_roundw
        case rel=>exact⟨j+1,_,_,by omega,by go_num,hbel5,hx5,hres5,ho5,hO5,hT3⟩
        case measure=>simp[intOf];omega
       ·obtain rfl:j=8:=by omega
        have hTn:Hid (zK l (k+1) [] t'):=Lib.hid (zK.next (by rw[hhalf.out];exact hT2.out) hlt)
        go_wp2
        go_roundw
        case rel=>exact⟨k+1,ca',t',by omega,by go_num,hbr2,hx2,hres2,ho2,hO2,hTn⟩
        case measure=>simp[intOf];omega
  ·obtain rfl:k=8:=by omega
   have hfin:=hT.out.fin
   have hone:=hO.rd.one
   have hsz:=hO.sz
   rw[hfin] at hO
   clear hfin
   go_wp2_with (first | (refine fw rfl 53 (.tmp 3) rfl (w.heap.size+2) 0 rfl ca.toList ho.rd _ underlying53 tab_agg (by rw[Array.length_toList,hsz];exact tab_size) ?_) | (refine ax rfl _ (.tmp 2) (.tmp 47) rfl (w.heap.size+1) ca rfl rfl _ _ hres (by rw[hsz];rfl) (by rw[hsz];exact tab_size) hone ?_))
   intro w5 hr5 hgr5
   have hO5:=hO.keep hres (by decide) hgr5
   have hbel5:Below w.heap.size w w5:=hbr.grown hgr5 hbr.size (fun k hk=>by cases hk;omega)
   go_wp2
   refine bodyPost_ret (v:=.agg ca) (dF results36 _ _ (w.heap.size+1) _ _ _ rfl hr5 underlying53 rfl (by rw[hsz];exact tab_size)) rfl ?_
   exact⟨_,rfl,hO5,hbel5⟩
theorem Bn (t e:TypeId) (z:Value) (size bytes:Nat) (ht:P.underlying t=some (.slice e)) (h2:(P.info? e).map (fun i=>(i.zero,i.size,i.bytes))=some (some z,size,bytes)) (kl kc:IntKind) (n:Nat) (b2:bytes*n≤281474976710656) (b3:n≤9223372036854775807) (w:World) :
  (Instr.makeSlice t (.int kl (n:Int)) (.int kc (n:Int))).run P w = .ok (.slice (some ⟨w.heap.size,0,none⟩) n n) (w.alloc (.cells (madeCells z.cells (n*size)) e)):=by
 obtain⟨i,hi,hzz,hs,hb⟩:=info_parts h2
 have hb' : (i.bytes:Int)*(n:Int)≤281474976710656:=by
  have h:((i.bytes*n:Nat):Int)≤281474976710656:=by rw[hb];omega
  rwa [Int.natCast_mul] at h
 have hr:=run_make (P:=P) w t e i z ht hi hzz kl kc n n (by omega) (Int.le_refl _) hb' (by omega)
 simp only[Int.toNat_natCast,hs] at hr
 exact hr
theorem wT {α:Type} (enc:α→List Value) (x:α) (hsz:∀x,(enc x).length=sz) (hp:0<sz) (hz:z.toList=enc x) (hn:n≤maxLen) (hB:B≤g) (hk:aD w g (madeCells z (n*sz)) e) :
  Own w B e sz (.slice (some ⟨g,0,none⟩) n n) n ((List.replicate n x).flatMap enc):=
 ⟨by rw[Pw.flat_len enc sz hsz,List.length_replicate],.inr ⟨g,0,n,_,rfl,hB,hk,Nat.le_refl _,hn,by simp[size_madeCells],fun j u hj=>by
  rw[Nat.zero_add,←Array.getElem?_toList,zD enc sz hsz hp z x hz n];exact hj⟩⟩
theorem Ou (h:aD w g (madeCells z (n*8)) e) (h' : aD w g' (madeCells z (n' * 8)) e') (hne:Value.slice (some ⟨g,0,none⟩) n n ≠ .slice (some ⟨g',0,none⟩) n' n'):g≠g':=by
 intro e0
 subst e0
 have h2:some (Obj.cells (madeCells z (n*8)) e (0,0))=some (Obj.cells (madeCells z (n' * 8)) e' (0,0)):=h.symm.trans h'
 have h3:madeCells z (n*8)=madeCells z (n' * 8):=by
  injection h2 with h2
  injection h2
 have h4:=congrArg Array.size h3
 rw[size_madeCells,size_madeCells] at h4
 obtain rfl:n=n':=by omega
 exact hne rfl
structure JM (W0:World) (B f s ct:Nat) (zf zs zp:Array Value) (L:Nat→Bool) (y:Nat→Value) (W:World):Prop where
 be:Below W0.heap.size W0 W
 k2:L 2=true→∃g,y 2 = .slice (some ⟨g,0,none⟩) f f∧B≤g∧aD W g (madeCells zf (f*13)) 81
 k5:L 5=true→∃g,y 5 = .slice (some ⟨g,0,none⟩) s s∧B≤g∧aD W g (madeCells zs (s*1)) 3
 k7:L 7=true→∃g,y 7 = .slice (some ⟨g,0,none⟩) s s∧B≤g∧aD W g (madeCells zp (s*8)) 79
 k10:L 10=true→∃g,y 10 = .slice (some ⟨g,0,none⟩) ct ct∧B≤g∧aD W g (madeCells zp (ct*8)) 79
 ne:L 7=true→L 10=true→y 7≠y 10
 k3:L 3=true→L 2=true∧y 3 = .agg #[y 2,.int .i64 0]
 k8:L 8=true→L 7=true∧y 8 = .agg #[y 7,.slice none 0 0]
 k11:L 11=true→L 10=true∧y 11 = .agg #[y 10,.slice none 0 0]
 k14:L 14=true→(L 3=true∧L 5=true∧L 8=true∧L 11=true)∧y 14 = .agg #[y 2,.int .i64 0,y 5,y 7,.slice none 0 0,y 10,.slice none 0 0,.slice none 0 0,.int .i64 ct,.slice none 0 0,.slice none 0 0]
theorem nM {s:Nat} :∀L y W W',Below W.heap.size W W'→JM W0 B f s ct zf zs zp L y W→JM W0 B f s ct zf zs zp L y W':=fun _ _ _ _ hb h=>
 ⟨ag h.be hb,fun e=>by obtain⟨g,a,b,c⟩:=h.k2 e;exact⟨g,a,b,c.ext hb⟩,fun e=>by obtain⟨g,a,b,c⟩:=h.k5 e;exact⟨g,a,b,c.ext hb⟩,fun e=>by obtain⟨g,a,b,c⟩:=h.k7 e;exact⟨g,a,b,c.ext hb⟩,fun e=>by obtain⟨g,a,b,c⟩:=h.k10 e;exact⟨g,a,b,c.ext hb⟩,h.ne,h.k3,h.k8,h.k11,h.k14⟩
theorem Qp {s:Nat} (y:Nat→Value):JM W0 B f s ct zf zs zp (fun _=>false) y W0:=
 ⟨Below.refl _ _,fun e=>(by cases e),fun e=>(by cases e),fun e=>(by cases e),fun e=>(by cases e),fun e=>(by cases e),fun e=>(by cases e),fun e=>(by cases e),fun e=>(by cases e),fun e=>(by cases e)⟩
theorem ul {s:Nat} (hi:i≠2∧i≠5∧i≠7∧i≠10∧i≠3∧i≠8∧i≠11∧i≠14) (h:JM W0 B f s ct zf zs zp L y W):JM W0 B f s ct zf zs zp (bK L i) (bZ y i v) W:=by
 have e:∀k,k≠i→bK L i k=L k∧bZ y i v k=y k:=fun k hk=>⟨by unfold bK;rw[if_neg hk],by unfold bZ;rw[if_neg hk]⟩
 have e2:=e 2 (by omega)
 have e5:=e 5 (by omega)
 have e7:=e 7 (by omega)
 have e10:=e 10 (by omega)
 have e3:=e 3 (by omega)
 have e8:=e 8 (by omega)
 have e11:=e 11 (by omega)
 have e14:=e 14 (by omega)
 refine⟨h.be,?_,?_,?_,?_,?_,?_,?_,?_,?_⟩
 ·rw[e2.1,e2.2];exact h.k2
 ·rw[e5.1,e5.2];exact h.k5
 ·rw[e7.1,e7.2];exact h.k7
 ·rw[e10.1,e10.2];exact h.k10
 ·rw[e7.1,e7.2,e10.1,e10.2];exact h.ne
 ·rw[e3.1,e3.2,e2.1,e2.2];exact h.k3
 ·rw[e8.1,e8.2,e7.1,e7.2];exact h.k8
 ·rw[e11.1,e11.2,e10.1,e10.2];exact h.k11
 ·rw[e14.1,e14.2,e3.1,e5.1,e8.1,e11.1,e2.2,e5.2,e7.2,e10.2];exact h.k14
theorem kM {p:Prop} (h:L i=false) (h' : L i=true):p:=by rw[h] at h'; cases h'
theorem Qh {s:Nat} (hi:L 2=false) (hB:B≤W0.heap.size) (h0:JM W0 B f s ct zf zs zp L y W):JM W0 B f s ct zf zs zp (bK L 2) (bZ y 2 (.slice (some ⟨W.heap.size,0,none⟩) f f)) (W.alloc (.cells (madeCells zf (f*13)) 81)):=by
 have h:=nM _ _ _ _ ((Below.refl W.heap.size W).alloc (Nat.le_refl _) (.cells (madeCells zf (f*13)) 81)) h0
 exact⟨h.be,fun _=>⟨_,rfl,Nat.le_trans hB h0.be.size,aD.new _ _ _⟩,h.k5,h.k7,h.k10,h.ne,fun e=>kM hi (h.k3 e).1,h.k8,h.k11,fun e=>kM hi (h.k3 (h.k14 e).1.1).1⟩
theorem Qd {s:Nat} (hi:L 5=false) (hB:B≤W0.heap.size) (h0:JM W0 B f s ct zf zs zp L y W):JM W0 B f s ct zf zs zp (bK L 5) (bZ y 5 (.slice (some ⟨W.heap.size,0,none⟩) s s)) (W.alloc (.cells (madeCells zs (s*1)) 3)):=by
 have h:=nM _ _ _ _ ((Below.refl W.heap.size W).alloc (Nat.le_refl _) (.cells (madeCells zs (s*1)) 3)) h0
 exact⟨h.be,h.k2,fun _=>⟨_,rfl,Nat.le_trans hB h0.be.size,aD.new _ _ _⟩,h.k7,h.k10,h.ne,h.k3,h.k8,h.k11,fun e=>kM hi (h.k14 e).1.2.1⟩
theorem Qe {s:Nat} (hi:L 7=false) (hB:B≤W0.heap.size) (h0:JM W0 B f s ct zf zs zp L y W):JM W0 B f s ct zf zs zp (bK L 7) (bZ y 7 (.slice (some ⟨W.heap.size,0,none⟩) s s)) (W.alloc (.cells (madeCells zp (s*8)) 79)):=by
 have h:=nM _ _ _ _ ((Below.refl W.heap.size W).alloc (Nat.le_refl _) (.cells (madeCells zp (s*8)) 79)) h0
 refine⟨h.be,h.k2,h.k5,fun _=>⟨_,rfl,Nat.le_trans hB h0.be.size,aD.new _ _ _⟩,h.k10,fun _ e => ?_,h.k3,fun e=>kM hi (h.k8 e).1,h.k11,fun e=>kM hi (h.k8 (h.k14 e).1.2.2.1).1⟩
 obtain⟨g,e1,_,e2⟩:=h0.k10 e
 show Value.slice _ s s≠y 10
 rw[e1]
 intro e3
 simp only[Value.slice.injEq,Option.some.injEq,Addr.mk.injEq] at e3
 have:=e2.lt
 omega
theorem Px {s:Nat} (hi:L 10=false) (hB:B≤W0.heap.size) (h0:JM W0 B f s ct zf zs zp L y W):JM W0 B f s ct zf zs zp (bK L 10) (bZ y 10 (.slice (some ⟨W.heap.size,0,none⟩) ct ct)) (W.alloc (.cells (madeCells zp (ct*8)) 79)):=by
 have h:=nM _ _ _ _ ((Below.refl W.heap.size W).alloc (Nat.le_refl _) (.cells (madeCells zp (ct*8)) 79)) h0
 refine⟨h.be,h.k2,h.k5,h.k7,fun _=>⟨_,rfl,Nat.le_trans hB h0.be.size,aD.new _ _ _⟩,fun e _ => ?_,h.k3,h.k8,fun e=>kM hi (h.k11 e).1,fun e=>kM hi (h.k11 (h.k14 e).1.2.2.2).1⟩
 obtain⟨g,e1,_,e2⟩:=h0.k7 e
 show y 7≠Value.slice _ ct ct
 rw[e1]
 intro e3
 simp only[Value.slice.injEq,Option.some.injEq,Addr.mk.injEq] at e3
 have:=e2.lt
 omega
theorem Qi {s:Nat} (hi:L 3=false) (hd:L 2=true) (h:JM W0 B f s ct zf zs zp L y W):JM W0 B f s ct zf zs zp (bK L 3) (bZ y 3 (.agg #[y 2,.int .i64 0])) W:=
 ⟨h.be,h.k2,h.k5,h.k7,h.k10,h.ne,fun _=>⟨hd,rfl⟩,h.k8,h.k11,fun e=>kM hi (h.k14 e).1.1⟩
theorem Qq {s:Nat} (hi:L 8=false) (hd:L 7=true) (h:JM W0 B f s ct zf zs zp L y W):JM W0 B f s ct zf zs zp (bK L 8) (bZ y 8 (.agg #[y 7,.slice none 0 0])) W:=
 ⟨h.be,h.k2,h.k5,h.k7,h.k10,h.ne,h.k3,fun _=>⟨hd,rfl⟩,h.k11,fun e=>kM hi (h.k14 e).1.2.2.1⟩
theorem PW {s:Nat} (hi:L 11=false) (hd:L 10=true) (h:JM W0 B f s ct zf zs zp L y W):JM W0 B f s ct zf zs zp (bK L 11) (bZ y 11 (.agg #[y 10,.slice none 0 0])) W:=
 ⟨h.be,h.k2,h.k5,h.k7,h.k10,h.ne,h.k3,h.k8,fun _=>⟨hd,rfl⟩,fun e=>kM hi (h.k14 e).1.2.2.2⟩
theorem PE {s:Nat} (h3:L 3=true) (h5:L 5=true) (h8:L 8=true) (h11:L 11=true) (h:JM W0 B f s ct zf zs zp L y W) :
  JM W0 B f s ct zf zs zp (bK L 14) (bZ y 14 (.agg #[y 2,.int .i64 0,y 5,y 7,.slice none 0 0,y 10,.slice none 0 0,.slice none 0 0,.int .i64 ct,.slice none 0 0,.slice none 0 0])) W:=
 ⟨h.be,h.k2,h.k5,h.k7,h.k10,h.ne,h.k3,h.k8,h.k11,fun _=>⟨⟨h3,h5,h8,h11⟩,rfl⟩⟩
def Nv (gf gs gw gd f s ct:Nat):MH:=⟨some ⟨gf,0,none⟩,f,⟨List.replicate f fr0,0⟩,some ⟨gs,0,none⟩,s,List.replicate s 0,some ⟨gw,0,none⟩,s,none,0,⟨List.replicate s zPg,[]⟩,some ⟨gd,0,none⟩,ct,none,0,⟨List.replicate ct zPg,[]⟩,none,0,[],ct,none,0,[],none,0,[]⟩
theorem NN {s:Nat} {l:List UInt8} (hr:nR w al cl l.length (l.map wU)) (ha:∀a,al=some a→l.map wU≠[]→a.block<B) (hB:B≤b) (hk:aD w b (fD ⟨al,cl,l,Nv gf gs gw gd f s ct,none,0,[]⟩) 77)
 (hf:f≤40) (hs:s≤60) (hc:ct≤80) (b1:B≤gf) (b2:B≤gs) (b3:B≤gw) (b4:B≤gd) (hne:gw≠gd) (ef:zf.toList=lZ fr0) (es:zs.toList=[eH 0]) (ep:zp.toList=wz zPg)
 (k1:aD w gf (madeCells zf (f*13)) 81) (k2:aD w gs (madeCells zs (s*1)) 3) (k3:aD w gw (madeCells zp (s*8)) 79) (k4:aD w gd (madeCells zp (ct*8)) 79):dz w B b ⟨al,cl,l,Nv gf gs gw gd f s ct,none,0,[]⟩:=by
 have m:maxLen=maxLen:=rfl
 have o1:=wT lZ fr0 (n:=f) eB (by decide) ef (by unfold maxLen;omega) b1 k1
 have o2:=wT (fun x=>[eH x]) (0:Int) (n:=s) (fun _=>rfl) (by decide) es (by unfold maxLen;omega) b2 k2
 have o3:=wT wz zPg (n:=s) jo (by decide) ep (by unfold maxLen;omega) b3 k3
 have o4:=wT wz zPg (n:=ct) jo (by decide) ep (by unfold maxLen;omega) b4 k4
 refine⟨hk,hB,⟨?_,?_,⟨?_,Own.nil _ _ _ _⟩,⟨?_,Own.nil _ _ _ _⟩,kD.nil _ _,Own.nil _ _ _ _,Own.nil _ _ _ _,fun p hp=>(by cases hp),by show (-9223372036854775808:Int)≤(ct:Int)∧(ct:Int)≤9223372036854775807;omega⟩,Own.nil _ _ _ _,hr,ha,?_,fun p hp=>(by cases hp),rfl⟩
 ·show Own w B _ 13 (.slice (some ⟨gf,0,none⟩) (List.replicate f fr0).length f) (List.replicate f fr0).length _
  rw[List.length_replicate];exact o1
 ·show Own w B _ 1 (.slice (some ⟨gs,0,none⟩) (List.replicate s (0:Int)).length s) (List.replicate s (0:Int)).length ((List.replicate s (0:Int)).map eH)
  rw[List.length_replicate,←gJ];exact o2
 ·show Own w B _ 8 (.slice (some ⟨gw,0,none⟩) (List.replicate s zPg).length s) (List.replicate s zPg).length _
  rw[List.length_replicate];exact o3
 ·show Own w B _ 8 (.slice (some ⟨gd,0,none⟩) (List.replicate ct zPg).length ct) (List.replicate ct zPg).length _
  rw[List.length_replicate];exact o4
 ·intro x hx hd
  have e1:gw=x:=by simpa[Nv,oB,Value.ownBlock] using hx
  have e2:gd=x:=by simpa[Nv,oB,Value.ownBlock] using hd
  exact hne (e1.trans e2.symm)
def uW (f q:Nat):List Fr:=List.replicate q frZ++List.replicate (f-q) fr0
theorem Bo (h:q≤f):(uW f q).length=f:=by unfold uW;simp;omega
theorem Ny (h:q<f) (hl:q<(uW f q).length):(uW f q)[q]=fr0:=by
 have:(uW f q)[q]?=some fr0:=by
  unfold uW
  rw[List.getElem?_append_right (by simp),List.length_replicate,Nat.sub_self,List.getElem?_replicate,if_pos (by omega)]
 rw[List.getElem?_eq_getElem hl] at this
 exact Option.some.inj this
theorem NL (h:q<f):(uW f q).set q frZ=uW f (q+1):=by
 unfold uW
 rw[List.set_append,if_neg (by simp),List.length_replicate,Nat.sub_self]
 obtain⟨d,hd⟩:∃d,f-q=d+1:=⟨f-q-1,by omega⟩
 rw[hd,show f-(q+1)=d by omega,List.replicate_succ,List.set_cons_zero,List.replicate_succ',List.append_assoc]
 rfl
theorem Np (f:Nat):uW f f=List.replicate f frZ:=by unfold uW;simp
theorem Nh {o:Nat} (hfit:o+13≤cur.size) (hc:∀j u,(lZ fr0)[j]?=some u→cur[o+j]?=some u):bq cur (o+11) [.int .i64 (-1)]=bq cur o (lZ frZ):=
 Ac (xs:=lZ fr0) rfl hfit hc (by decide) (fun i hi=>by
  obtain rfl:i=0:=by simpa using hi
  rfl) (fun i hi=>by
  by_cases h13:i<13
  ·match i,h13,hi with
   | 0,_,_=>rfl
   | 1,_,_=>rfl
   | 2,_,_=>rfl
   | 3,_,_=>rfl
   | 4,_,_=>rfl
   | 5,_,_=>rfl
   | 6,_,_=>rfl
   | 7,_,_=>rfl
   | 8,_,_=>rfl
   | 9,_,_=>rfl
   | 10,_,_=>rfl
   | 11,_,h=>exact absurd h (by simp)
   | 12,_,_=>rfl
  ·rw[List.getElem?_eq_none (by rw[eB];omega),List.getElem?_eq_none (by rw[eB];omega)])
structure AQ (f s ct:Nat) (as0:Option Addr) (fi0:List PF) (bl:List Page) (q:List (Int × Page)) (S:MW):Prop where
 m:S.H.m=⟨List.replicate f frZ,0⟩
 asl:S.H.asl=as0
 sl:S.H.sl=List.replicate s 0
 sw:S.H.sw=⟨List.replicate s zPg,[]⟩
 dk:S.H.dk=⟨bl,q⟩
 fi:S.H.fi=fi0
 ct:S.H.ct=ct
 ca:S.H.ca=[]
 sp:S.H.sp=[]
 T:S.T=[]
theorem AQ.ma {s:Nat} {q:List (Int × Page)} (h:AQ f s ct as0 fi0 bl q S):S.H.ma=vw f s ct bl q (fi0.map PF.fi):=by
 unfold MH.ma vw bY
 rw[h.m,h.sl,h.sw,h.dk,h.fi,h.ct,h.ca,h.sp];rfl
theorem AQ.lst {s:Nat} {q:List (Int × Page)} (h:AQ f s ct as0 fi0 bl q S) (a:Option Addr) (c:Nat) (l:List UInt8):AQ f s ct as0 fi0 bl q (S.lst a c l):=⟨h.m,h.asl,h.sl,h.sw,h.dk,h.fi,h.ct,h.ca,h.sp,h.T⟩
theorem dz.kb_int (h:dz w B b S) {x:Nat} (hk:aD w x cs 3) (hx:oB S.H.asl≠some x):¬jO b S x:=by
 have own:∀ {e:TypeId} {sz n c:Nat} {a:Option Addr} {xs:List Value},3≠e→Own w B e sz (.slice a n c) n xs→oB a=some x→False:=fun ht ho hx=>by
  obtain⟨_,cs',h2⟩:=fT ho hx
  exact jB hk h2 ht rfl
 intro hx'
 rcases hx' with hx' | hx'
 ·subst hx'; exact jB hk h.blk (by decide) rfl
 ·simp only[eO,List.mem_cons,List.not_mem_nil,or_false] at hx'
  rcases hx' with hx' | hx' | hx' | hx' | hx' | hx' | hx' | hx' | hx'
  ·exact own (by decide) h.ma.fr hx'.symm
  ·exact hx hx'.symm
  ·exact own (by decide) h.ma.sw.b hx'.symm
  ·exact own (by decide) h.ma.dk.b hx'.symm
  ·exact own (by decide) h.ma.dk.q hx'.symm
  ·exact own (by decide) h.ma.st.own hx'.symm
  ·exact own (by decide) h.ma.ca hx'.symm
  ·exact own (by decide) h.ma.sp hx'.symm
  ·exact own (by decide) h.tt hx'.symm
theorem dz.locI (h:dz w B b S) (hk:aD w g cs 3) (hn:¬jO b S g) (hfi:∀p∈S.H.fi,oB p.a≠some g) (hgB:B≤g) (hg:w.grownBy w' (some g)):dz w' B b S:=by
 have hne:∀ {a:Option Addr},oB a∈eO S→∀n c g',(Value.slice a n c).ownBlock=some g'→some g≠some g':=fun hm n c g' he e=>by
  cases e
  rw[jv] at he
  exact hn (.inr (by rw[←he];exact hm))
 exact⟨h.blk.grown hg (fun e=>hn (.inl (Option.some.inj e))),h.ge,⟨h.ma.fr.grown hg (hne (by simp[eO]) _ _),h.ma.sl.grown hg (hne (by simp[eO]) _ _),⟨h.ma.sw.b.grown hg (hne (by simp[eO]) _ _),h.ma.sw.q.grown hg (fun g' he=>by rw[h.n3] at he;cases he)⟩,⟨h.ma.dk.b.grown hg (hne (by simp[eO]) _ _),h.ma.dk.q.grown hg (hne (by simp[eO]) _ _)⟩,
  ⟨h.ma.st.own.grown hg (hne (by simp[eO]) _ _),fun i p hp=>(h.ma.st.each i p hp).grown hg (fun g' he e=>by
   cases e
   unfold jV at he
   rw[jv] at he
   exact hfi p (List.mem_of_getElem? hp) he),h.ma.st.apart⟩,h.ma.ca.grown hg (hne (by simp[eO]) _ _),h.ma.sp.grown hg (hne (by simp[eO]) _ _),fun p hp=>⟨ak (h.ma.ps p hp).1 hk (by decide) hg,(h.ma.ps p hp).2.keep hk (by decide) hg⟩,h.ma.c64⟩,
  h.tt.grown hg (hne (by simp[eO]) _ _),h.rd.keep h.ra h.bs hg hgB,h.ra,h.n1,h.n2,h.n3⟩
theorem dz.setTb (h:dz w B b S) {P:PS} (hP:S.H.sp[p]?=some P) :
  ∃g off cur,S.H.ap=some ⟨g,off,none⟩∧B≤g∧aD w g cur 55∧off+p*10+2+8≤cur.size ∧
   ∀(w' : World) (v:Vector Value 8) (t:Tb),mD w B (mo v) t→aD w' g (bq cur (off+p*10+2) (mo v).toList) 55→w.grownBy w' (some g)→dz w' B b { S with H:={ S.H with sp:=S.H.sp.set p { P with ts:=v,tb:=t } } }:=by
 have hp:=(List.getElem?_eq_some_iff.1 hP).1
 have hPe:=(List.getElem?_eq_some_iff.1 hP).2
 obtain⟨g,off,cap,cur,hv,hB,hblk,hfit,hset⟩:=lJ nK (by decide) rfl h.ma.sp p hp
 simp only[Value.slice.injEq] at hv
 obtain⟨hap,_,hcp⟩:=hv
 have hsp:=h.ma.sp
 rw[hap] at hsp
 have hcell:=vD hsp hblk
 have hat:∀j u,(nZ P)[j]?=some u→cur[off+p*10+j]?=some u:=fun j u hj=>by
  rw[Nat.add_assoc]
  exact hcell _ _ (flat_get nZ 10 nK S.H.sp p hp j u (by rw[hPe];exact hj))
 refine⟨g,off,cur,hap,hB,hblk,by omega,fun w' v t ht hb hg => ?_⟩
 have e1:bq cur (off+p*10) (nZ { P with ts:=v,tb:=t })=bq cur (off+p*10+2) (mo v).toList:=by
  show bq cur (off+p*10) (.bool P.lv :: .slice P.aa P.ar.length P.ac::(mo v).toList)=_
  rw[pM _ (by simpa using hat 0 _ rfl),pM _ (hat 1 _ rfl)]
 rw[←e1] at hb
 have hlen:(S.H.sp.set p { P with ts:=v,tb:=t }).length=S.H.sp.length:=List.length_set
 refine h.putP hblk hB hg hlen (by rw[hlen];exact hset w' _ hb) fun q hq => ?_
 rcases List.mem_or_eq_of_mem_set hq with hq|rfl
 ·exact h.ma.ps q hq
 ·exact⟨(h.ma.ps P (List.mem_of_getElem? hP)).1,ht⟩
def yj (S:MW) (B b:Nat) (w:World) (ks:List (Nat × Array Value × TypeId)) (p q:Nat) (e:TypeId) (sz n:Nat) (v0:Value) (old xs:List Value):(Nat→Bool)→(Nat→Value)→World→Prop:=fun L y W=>
 (aD W b (fD S) 77∧∀t∈ks,aD W t.1 t.2.1 t.2.2)∧(L p=false→dz W B b S∧MS w b S W S)∧(L q=true→L p=false→∃a c,y q = .slice a 1 c∧nR W a c 1 xs) ∧
 (L p=true→∃w1,dz w1 B b S∧MS w b S w1 S∧w1.grownBy W v0.ownBlock∧Own W B e sz (y p) (n+1) (old++xs)∧lc w1 v0 (y p))
theorem dD {ks:List (Nat × Array Value × TypeId)} :∀L y W W',Below W.heap.size W W'→yj S B b w ks p q e sz n v0 old xs L y W→yj S B b w ks p q e sz n v0 old xs L y W':=
 fun _ _ _ _ hb ⟨h1,h2,h3,h4⟩=>⟨⟨h1.1.ext hb,fun t ht=>(h1.2 t ht).ext hb⟩,fun e=>⟨(h2 e).1.below hb,(h2 e).2.below hb⟩,fun e1 e2=>by
  obtain⟨a,e,k1,k2⟩:=h3 e1 e2
  exact⟨a,e,k1,k2.below hb⟩,fun e=>by
  obtain⟨w1,k1,k2,k3,k4,k5⟩:=h4 e
  exact⟨w1,k1,k2,Dy k3 hb,k4.below hb,k5⟩⟩
theorem dP {ks:List (Nat × Array Value × TypeId)} (hi:i≠q∧i≠p) (h:yj S B b w ks p q e sz n v0 old xs L y W):yj S B b w ks p q e sz n v0 old xs (bK L i) (bZ y i v) W:=by
 obtain⟨h1,h2,h3,h4⟩:=h
 have e15:bK L i q=L q:=by unfold bK;rw[if_neg (fun e=>hi.1 e.symm)]
 have e16:bK L i p=L p:=by unfold bK;rw[if_neg (fun e=>hi.2 e.symm)]
 have y15:bZ y i v q=y q:=by unfold bZ;rw[if_neg (fun e=>hi.1 e.symm)]
 have y16:bZ y i v p=y p:=by unfold bZ;rw[if_neg (fun e=>hi.2 e.symm)]
 exact⟨h1,by rw[e16];exact h2,by rw[e15,e16,y15];exact h3,by rw[e16,y16];exact h4⟩
theorem LD {ks:List (Nat × Array Value × TypeId)} (hpq:p≠q) (hb:Below W.heap.size W W') (h:yj S B b w ks p q e sz n v0 old xs L y W) (hr:nR W' a c 1 xs) :
  yj S B b w ks p q e sz n v0 old xs (bK L q) (bZ y q (.slice a 1 c)) W':=by
 obtain⟨h1,h2,h3,h4⟩:=dD _ _ _ _ hb h
 have e16:bK L q p=L p:=by unfold bK;rw[if_neg hpq]
 have y16:bZ y q (.slice a 1 c) p=y p:=by unfold bZ;rw[if_neg hpq]
 exact⟨h1,by rw[e16];exact h2,fun _ _=>⟨a,c,by unfold bZ;rw[if_pos rfl],hr⟩,by rw[e16,y16];exact h4⟩
theorem Lv {ks:List (Nat × Array Value × TypeId)} (hp:L p=false) (h:yj S B b w ks p q e sz n v0 old xs L y W) (hg:W.grownBy W' v0.ownBlock)
 (hnb:∀g,v0.ownBlock=some g→g≠b∧∀t∈ks,t.1≠g) (ho:Own W' B e sz v (n+1) (old++xs)) (hs:lc W v0 v):yj S B b w ks p q e sz n v0 old xs (bK L p) (bZ y p v) W':=by
 obtain⟨h1,h2,h3,h4⟩:=h
 refine⟨⟨h1.1.grown hg (fun e=>(hnb b e).1 rfl),fun t ht=>(h1.2 t ht).grown hg (fun e=>(hnb _ e).2 t ht rfl)⟩,fun e => ?_,fun _ e => ?_,fun _=>⟨W,(h2 hp).1,(h2 hp).2,hg,by unfold bZ;rw[if_pos rfl];exact ho,by unfold bZ;rw[if_pos rfl];exact hs⟩⟩<;>· unfold bK at e;rw[if_pos rfl] at e;cases e
theorem Mx {ks:List (Nat × Array Value × TypeId)} (h:dz w B b S) (hk:∀t∈ks,aD w t.1 t.2.1 t.2.2) (y:Nat→Value):yj S B b w ks p q e sz n v0 old xs (fun _=>false) y w:=
 ⟨⟨h.blk,hk⟩,fun _=>⟨h,MS.refl _ _ _⟩,fun e=>(by cases e),fun e=>(by cases e)⟩
def zm (S:MW) (B b:Nat) (w:World) (gf:Nat) (F:PF):(Nat→Bool)→(Nat→Value)→World→Prop:=fun L y W=>
 (∃a c l,dz W B b (S.lst a c l)∧MS w b S W (S.lst a c l))∧aD W gf (kX F) 67∧Own W B 3 1 (jV F) F.l.length (F.l.map eH) ∧
 (L 4=true→L 11=false→∃g,y 4 = .slice (some ⟨g,0,none⟩) 0 0∧Own W w.heap.size 67 2 (.slice (some ⟨g,0,none⟩) 0 0) 0 []) ∧
 (L 11=true→L 14=false→Own W w.heap.size 67 2 (y 11) S.H.fi.length (S.H.fi.flatMap lU)) ∧
 (L 13=true→L 14=false→Own W w.heap.size 67 2 (y 13) 1 (lU F)) ∧
 (L 14=true→Own W w.heap.size 67 2 (y 14) (S.H.fi.length+1) (S.H.fi.flatMap lU++lU F))∧w.heap.size≤W.heap.size∧(L 15=true→L 14=true∧y 15 = .agg #[y 14,.int .i64 0])
theorem bW :∀L y W W',Below W.heap.size W W'→zm S B b w gf F L y W→zm S B b w gf F L y W':=
 fun _ _ _ _ hb ⟨⟨a,c,l,h1,h2⟩,h3,h4,h5,h6,h7,h8,h9,h10⟩=>⟨⟨a,c,l,h1.below hb,h2.below hb⟩,h3.ext hb,h4.below hb,fun e1 e2=>by
  obtain⟨g,k1,k2⟩:=h5 e1 e2
  exact⟨g,k1,k2.below hb⟩,fun e1 e2=>(h6 e1 e2).below hb,fun e1 e2=>(h7 e1 e2).below hb,fun e1=>(h8 e1).below hb,Nat.le_trans h9 hb.size,h10⟩
theorem OC (h:dz w B b S) (hk:aD w gf (kX F) 67) (ho:Own w B 3 1 (jV F) F.l.length (F.l.map eH)) (y:Nat→Value):zm S B b w gf F (fun _=>false) y w:=
 ⟨⟨S.al,S.cl,S.l,h,MS.refl _ _ _⟩,hk,ho,fun e=>(by cases e),fun e=>(by cases e),fun e=>(by cases e),fun e=>(by cases e),Nat.le_refl _,fun e=>(by cases e)⟩
theorem dm (hi:i≠4∧i≠11∧i≠13∧i≠14∧i≠15) (h:zm S B b w gf F L y W):zm S B b w gf F (bK L i) (bZ y i v) W:=by
 have e:∀k,k=4∨k=11∨k=13∨k=14∨k=15→bK L i k=L k∧bZ y i v k=y k:=fun k hk=>⟨by unfold bK;rw[if_neg (by omega)],by unfold bZ;rw[if_neg (by omega)]⟩
 have e4:=e 4 (by decide)
 have e11:=e 11 (by decide)
 have e13:=e 13 (by decide)
 have e14:=e 14 (by decide)
 have e15:=e 15 (by decide)
 unfold zm
 rw[e4.1,e4.2,e11.1,e11.2,e13.1,e13.2,e14.1,e14.2,e15.1,e15.2]
 exact h
theorem Ov (h:zm S B b w gf F L y W):zm S B b w gf F (bK L 4) (bZ y 4 (.slice (some ⟨W.heap.size,0,none⟩) 0 0)) (W.alloc (.cells #[] 67)):=by
 obtain⟨h1,h3,h4,h5,h6,h7,h8,h9,h10⟩:=bW _ _ _ _ ((Below.refl _ _).alloc (Nat.le_refl _) (.cells #[] 67)) h
 exact⟨h1,h3,h4,fun _ _=>⟨_,rfl,Own.empty _ _ h.2.2.2.2.2.2.2.1⟩,h6,h7,h8,h9,h10⟩
theorem KG (h:zm S B b w gf F L y W) (hb:Below W.heap.size W W') (ho:Own W' w.heap.size 67 2 v S.H.fi.length (S.H.fi.flatMap lU)):zm S B b w gf F (bK L 11) (bZ y 11 v) W':=by
 obtain⟨h1,h3,h4,h5,h6,h7,h8,h9,h10⟩:=bW _ _ _ _ hb h
 exact⟨h1,h3,h4,fun _ e=>(by cases e),fun _ _=>ho,h7,h8,h9,h10⟩
theorem Ky (h:zm S B b w gf F L y W) (hb:Below W.heap.size W W') (ho:Own W' w.heap.size 67 2 v 1 (lU F)):zm S B b w gf F (bK L 13) (bZ y 13 v) W':=by
 obtain⟨h1,h3,h4,h5,h6,h7,h8,h9,h10⟩:=bW _ _ _ _ hb h
 exact⟨h1,h3,h4,h5,h6,fun _ _=>ho,h8,h9,h10⟩
theorem Gy (h:dz w B b S) {l:List UInt8} {x:Nat} (hx:w.heap.size≤x):¬jO b (S.lst a c l) x:=fun hk=>h.new hx hk
theorem MC (h0:dz w B b S) (hgf:gf<w.heap.size) (h:zm S B b w gf F L y W) (h11:L 11=true) (h14:L 14=false) (hg:W.grownBy W' (y 11).ownBlock) (ho:Own W' w.heap.size 67 2 v (S.H.fi.length+1) (S.H.fi.flatMap lU++lU F)) :
  zm S B b w gf F (bK L 14) (bZ y 14 v) W':=by
 obtain⟨⟨a,c,l,h1,h2⟩,h3,h4,h5,h6,h7,h8,h9,h10⟩:=h
 have o11:=h6 h11 h14
 have hst:∀k,(y 11).ownBlock=some k→w.heap.size≤k:=fun k hk=>o11.ge k hk
 refine⟨⟨a,c,l,?_,?_⟩,h3.grown hg (fun e=>by have:=hst _ e;omega),?_,fun _ e=>(by rw[show bK L 14 11=L 11 from rfl,h11] at e;cases e),fun _ e=>(by cases e),fun _ e=>(by cases e),fun _=>ho,Nat.le_trans h9 hg.size,fun e=>kM h14 (h10 e).1⟩
 ·cases hk:(y 11).ownBlock with
  | none=>rw[hk] at hg;exact h1.below (ji hg)
  | some g=>
   rw[hk] at hg
   obtain⟨cs,hkb⟩:=jd o11 g hk
   exact h1.locT hkb (by decide) (Gy h0 (hst g hk)) (Nat.le_trans h0.bs (hst g hk)) hg
 ·cases hk:(y 11).ownBlock with
  | none=>rw[hk] at hg;exact h2.below (ji hg)
  | some g=>rw[hk] at hg;exact h2.loc hg (hst g hk)
 ·cases hk:(y 11).ownBlock with
  | none=>rw[hk] at hg;exact h4.below (ji hg)
  | some g=>
   rw[hk] at hg
   obtain⟨cs,hkb⟩:=jd o11 g hk
   exact ak h4 hkb (by decide) hg
theorem Ku (hi:i≠4∧i≠11∧i≠13∧i≠14∧i≠15) (h0:dz w B b S) (hgf:¬jO b S gf) (hxa:∀x,(jV F).ownBlock=some x→¬jO b S x) (n:Int) (hn : -9223372036854775808≤n∧n≤9223372036854775807) (h:zm S B b w gf F L y W) {R:Value→World→Prop} (hR:∀x:Int,0≤x→x<256→∀W',R (.int .i64 x) W') :
  Calls Tryz.prog 30 #[.pointer (some ⟨b,0,none⟩),.int .i64 n] W fun e W' => ∃v,e = .returned v∧zm S B b w gf F (bK L i) (bZ y i v) W'∧R v W':=by
 obtain⟨⟨a,c,l,h1,h2⟩,h3,h4,h5,h6,h7,h8,h9,h10⟩:=h
 refine (dL _ n B b W h1 hn).mono ?_
 rintro r W' ⟨x,a',c',l',rfl,k1,k2,k3,_⟩
 have hfr:∀ {e:TypeId} {sz n:Nat} {v:Value} {xs:List Value},Own W w.heap.size e sz v n xs→Own W' w.heap.size e sz v n xs:=fun ho=>k2.ownN ho fun x hx=>Gy h0 (ho.ge x hx)
 refine⟨_,rfl,dm hi ⟨⟨a',c',l',k1,h2.trans k2⟩,k2.blkN h3 hgf,k2.ownN h4 hxa,fun e1 e2 => ?_,fun e1 e2=>hfr (h6 e1 e2),fun e1 e2=>hfr (h7 e1 e2),fun e1=>hfr (h8 e1),Nat.le_trans h9 k2.size,h10⟩,hR x k3.1 k3.2.1 W'⟩
 obtain⟨g,e3,e4⟩:=h5 e1 e2
 exact⟨g,e3,hfr e4⟩
theorem Ls (hd:L 14=true) (h:zm S B b w gf F L y W):zm S B b w gf F (bK L 15) (bZ y 15 (.agg #[y 14,.int .i64 0])) W:=by
 obtain⟨h1,h3,h4,h5,h6,h7,h8,h9,h10⟩:=h
 exact⟨h1,h3,h4,h5,h6,h7,h8,h9,fun _=>⟨hd,rfl⟩⟩
theorem GQ (hB:B≤w.heap.size) (F:PF):Own (w.alloc (.cells (kX F) 67)) B 67 2 (.slice (some ⟨w.heap.size,0,none⟩) 1 1) 1 (lU F):=
 ⟨rfl,.inr ⟨w.heap.size,0,1,_,rfl,hB,aD.new _ _ _,Nat.le_refl _,by unfold maxLen;omega,Nat.le_refl _,fun j u hj=>by rw[Nat.zero_add,←Array.getElem?_toList];exact hj⟩⟩
theorem wR (h:zm S B b w gf F L y W) (h14:L 14=true):∃a c,y 14 = .slice a (S.H.fi++[F]).length c∧EU W a c (S.H.fi++[F]):=by
 obtain⟨⟨a,c,l,h1,h2⟩,h3,h4,h5,h6,h7,h8,h9,h10⟩:=h
 obtain⟨a',c',e,k1,k2,k3,k4⟩:=(h8 h14).rd
 have hl:(S.H.fi++[F]).length=S.H.fi.length+1:=by simp
 refine⟨a',c',by rw[hl];exact e,by rw[hl];exact k1,k2,k3,by rw[List.flatMap_append];simpa using k4,fun p hp => ?_⟩
 rcases List.mem_append.1 hp with hp|hp
 ·exact h1.ma.rd.st.good p hp
 ·rw[List.mem_singleton.1 hp]
  obtain⟨a9,c9,e9,q1,q2,q3,q4⟩:=h4.rd
  unfold jV at e9
  injection e9 with e9 e10 e11
  subst e9;subst e11
  exact⟨q1,q2,q3,q4⟩
theorem PV {t:List En} (h:t.length=64):tL t=t.flatMap jT:=by
 have e:(List.range 64).map (fun i=>t.getD i zEn)=t:=by
  apply List.ext_getElem?
  intro i
  rw[List.getElem?_map]
  by_cases hi:i<64
  ·rw[List.getElem?_range hi,List.getElem?_eq_getElem (by omega)]
   show some (t.getD i zEn)=_
   rw[List.getD_eq_getElem?_getD,List.getElem?_eq_getElem (by omega)];rfl
  ·rw[List.getElem?_eq_none (by rw[List.length_range];omega),List.getElem?_eq_none (by omega)];rfl
 unfold tL
 rw[←List.flatMap_map (f:=fun i=>t.getD i zEn) (g:=jT),e]
theorem Mf {s:Nat} (hf:f≤40) (hs:s≤60) (hc:ct≤80):dw { vw f s ct (List.replicate ct zPg) [] [] with sp:=[⟨true,[],zTb⟩] } [List.replicate 64 zEn]=lI f s ct:=by
 have e1:lI f s ct=⟨rY f,wJ s,lW s,lW ct,⟨[],ct⟩,[],[⟨true,[],zTb⟩]⟩:=if_pos ⟨⟨by omega,by omega⟩,⟨by omega,by omega⟩,by omega,by omega⟩
 have hz:dZ (List.replicate 64 zEn)=zTb:=by decide +kernel
 rw[e1]
 unfold rY wJ lW dw vw
 rw[if_pos (by omega),if_pos (by omega),if_pos (by omega),if_pos (by omega)]
 simp only[Int.toNat_natCast,List.length_cons,List.length_nil]
 have e2:dZ (dE [List.replicate 64 zEn] 0)=zTb:=hz
 show (⟨⟨List.replicate f frZ,0⟩,List.replicate s 0,⟨List.replicate s zPg,[]⟩,⟨List.replicate ct zPg,[]⟩,⟨[],ct⟩,[],[⟨true,[],dZ (dE [List.replicate 64 zEn] 0)⟩]⟩:Ma)=_
 rw[e2]
theorem zH (h:Below B w0 w1) (h' : Below B' w1 w2) (hB:B≤B') (hw:B≤w0.heap.size):Below B w0 w2:=
 ⟨h'.os.trans h.os,h'.tape.trans h.tape,h'.output.trans h.output,Nat.le_trans h.size h'.size,fun x hx=>(h'.block x (Nat.lt_of_lt_of_le hx hB)).trans (h.block x hx)⟩
theorem oh (h:Rt m):MJ m:=by
 have h1:=h.pt
 have hw:=(gI _).1 h1.sw
 have hd:=(gI _).1 h1.dk
 have hst:=(gF h1.st).1
 refine⟨by have:=((dB _).1 h1.fr).1;omega,by have:=gM h1.sl;omega,by omega,by omega,by omega,by omega,⟨by omega,fun f hf=>by have:=uZ h1.st f hf;omega⟩,by have:=Km h.ca h1.st;omega,by have:=h1.spl;omega,fun s hs=>⟨?_,fun k hk => ?_⟩⟩
 ·have:=(iO.1 (h1.ar s hs)).1;omega
 ·have:=mG (jZ (h1.tb s hs) k hk);omega
theorem Dv (h:Below B w w1) (k:Below B w1 w2):Below B w w2:=
 ⟨k.os.trans h.os,k.tape.trans h.tape,k.output.trans h.output,Nat.le_trans h.size k.size,fun i hi=>(k.block i hi).trans (h.block i hi)⟩
theorem machT:41≠96∧41≠81∧41≠106∧41≠55:=by decide
def Bu (l:List Fr):Nat:=l.countP fun f=>decide (f.r=0)
theorem DI {α:Type} (q:α→Bool) (l:List α) (j:Nat) (hj:j<l.length):(l.take (j+1)).countP q=(l.take j).countP q+if q l[j]=true then 1 else 0:=by
 rw[List.take_add_one,List.getElem?_eq_getElem hj,List.countP_append]
 simp[List.countP_cons]
def zh (x:Int) (m:Nat):Nat:=(max (min x m) 0).toNat
theorem FM (x:Int) (m:Nat):zh x m≤m:=by unfold zh;omega
theorem BA (x:Int) (m:Nat):((zh x m:Nat):Int)=max (min x m) 0:=by unfold zh;omega
def Po (f s b:Int) (l:List UInt8) (w:World) (r:Ending) (w' : World):Prop:=∃H:MH,r = .returned (.agg (dC H))∧oL w' w.heap.size H∧Below w.heap.size w w'∧Rt H.ma∧Co H.ma∧(∀p∈H.sp,∀n g,onA p.ar n=some g→g.fi<H.fi.length) ∧
 H.m.fs.length=zh f 40∧H.dk.blocks.length=zh b 80∧(1≤H.sp.length∧H.sp.length≤2)∧(l=[]→H.ma=lI (zh f 40) (zh s 60) (zh b 80))
theorem yo (fr sl bl:Int) (al:Option Addr) (cl:Nat) (l:List UInt8) (w:World) (hr:nR w al cl l.length (l.map wU)) :
  Calls Tryz.prog 10 #[.int .i64 fr,.int .i64 sl,.int .i64 bl,.slice al l.length cl] w (Po fr sl bl l w):=by
 have hra:Hid (∀a,al=some a→l.map wU≠[]→a.block<w.heap.size):=Lib.hid fun a ha hl=>by
  obtain⟨u,hu⟩:∃u,(l.map wU)[0]?=some u:=⟨_,List.getElem?_eq_getElem (List.length_pos_iff.2 hl)⟩
  obtain⟨b',o',e,hc⟩:=hr.rd 0 u hu
  rw[ha] at e
  cases e
  exact Ot hc
 go_enter func10,ntmps10
 go_upto_region 2 with (fail)
 refine oJ (fun W=>Code.wp _ _ _ _ W) fun w1 hb1 bx1 mx1 hs1 => ?_
 have hr1:=hr.below hb1
 have mx1:aD w1 (w.heap.size+1) (fD ⟨al,cl,l,noH,none,0,[]⟩) 77:=mx1
 have bx1:aD w1 w.heap.size (dC noH) 41:=bx1
 clear hr
 go_upto_region 3 with (fail)
 have e0:(if (if 40<fr then (40:Int) else fr)<0 then 0 else if 40<fr then 40 else fr)=((zh fr 40:Nat):Int):=by
  rw[BA];split<;>split<;>omega
 have e1:(if (if 60<sl then (60:Int) else sl)<0 then 0 else if 60<sl then 60 else sl)=((zh sl 60:Nat):Int):=by
  rw[BA];split<;>split<;>omega
 have e2:(if (if 80<bl then (80:Int) else bl)<0 then 0 else if 80<bl then 80 else bl)=((zh bl 80:Nat):Int):=by
  rw[BA];split<;>split<;>omega
 rw[e0,e1,e2]
 clear e0 e1 e2
 generalize (if 40<fr then (40:Int) else fr)=z0
 generalize (if 60<sl then (60:Int) else sl)=z1
 generalize (if 80<bl then (80:Int) else bl)=z2
 obtain⟨f,hf⟩:∃f,zh fr 40=f:=⟨_,rfl⟩
 obtain⟨s,hs⟩:∃s,zh sl 60=s:=⟨_,rfl⟩
 obtain⟨ct,hct⟩:∃ct,zh bl 80=ct:=⟨_,rfl⟩
 have hf40:f≤40:=by rw[←hf];exact FM _ _
 have hs60:s≤60:=by rw[←hs];exact FM _ _
 have hc80:ct≤80:=by rw[←hct];exact FM _ _
 have hcl:=Lib.hid (And.intro hf (And.intro hs hct))
 rw[hf,hs,hct]
 clear hf hs hct
 have hb1z:w.heap.size+2≤w1.heap.size:=mx1.lt
 have hmkF:∀W:World,(Instr.makeSlice 26 (.int .i64 (f:Int)) (.int .i64 (f:Int))).run Tryz.prog W = .ok (.slice (some ⟨W.heap.size,0,none⟩) f f) (W.alloc (.cells (madeCells (uP fr0) (f*13)) 81)):=
  Bn 26 81 _ 13 40 underlying26 frame_info .i64 .i64 f (by omega) (by omega)
 have hmkS:∀W:World,(Instr.makeSlice 30 (.int .i64 (s:Int)) (.int .i64 (s:Int))).run Tryz.prog W = .ok (.slice (some ⟨W.heap.size,0,none⟩) s s) (W.alloc (.cells (madeCells #[.int .i64 0] (s*1)) 3)):=
  Bn 30 3 _ 1 8 underlying30 int_info .i64 .i64 s (by omega) (by omega)
 have hmkW:∀W:World,(Instr.makeSlice 31 (.int .i64 (s:Int)) (.int .i64 (s:Int))).run Tryz.prog W = .ok (.slice (some ⟨W.heap.size,0,none⟩) s s) (W.alloc (.cells (madeCells (gD zPg) (s*8)) 79)):=
  Bn 31 79 _ 8 8 underlying31 page_info .i64 .i64 s (by omega) (by omega)
 have hmkD:∀W:World,(Instr.makeSlice 31 (.int .i64 (ct:Int)) (.int .i64 (ct:Int))).run Tryz.prog W = .ok (.slice (some ⟨W.heap.size,0,none⟩) ct ct) (W.alloc (.cells (madeCells (gD zPg) (ct*8)) 79)):=
  Bn 31 79 _ 8 8 underlying31 page_info .i64 .i64 ct (by omega) (by omega)
 have hb2:=Lib.hid hb1
 clear hb1
 refine dW 17 [_,_,.r 2 ((aR fun _=>True)),.r 3 ((aR fun _=>True)),_,.r 5 ((aR fun _=>True)),_,.r 7 ((aR fun _=>True)),.r 8 ((aR fun _=>True)),_,.r 10 ((aR fun _=>True)),.r 11 ((aR fun _=>True)),_,.v (.agg #[.slice none 0 0,.int .i64 (ct:Int)]),.r 14 ((aR fun _=>True)),_,_] (JM w1 w1.heap.size f s ct (uP fr0) #[.int .i64 0] (gD zPg)) nM (fun y=>Qp y) (Qk nM rfl (Qk nM rfl (ae ?_ (ae ?_ (Qk nM rfl (ae ?_ (Qk nM rfl (ae ?_ (ae ?_ (Qk nM rfl (ae ?_ (ae ?_ (Qk nM rfl (ae ?_ (ae ?_ (Qk nM rfl (Qf nM (w.heap.size+1) 1 rfl rfl (aB) (fun _ _ _ _ hLd h=>ul (by decide) h)) (fun _ _ _ _ hLd h=>ul (by decide) h)))) (fun _ _ _ _ hLd h=>ul (by decide) h)))) (fun _ _ _ _ hLd h=>ul (by decide) h)))) (fun _ _ _ _ hLd h=>ul (by decide) h))) (fun _ _ _ _ hLd h=>ul (by decide) h)))) (fun _ _ _ _ hLd h=>ul (by decide) h)) (fun _ _ _ _ hLd h=>ul (by decide) h)) (fun _=>rfl) rfl ?_
 ·intro ρ y W L hw hn hLi hLd hb hd;have E32:=hw 32 1 rfl;have h1:y 1=_:=hd 1 rfl
  refine bO (.slice (some ⟨W.heap.size,0,none⟩) f f) (ah rfl) ?_ (Qh hLi (Nat.le_refl _) hb) trivial
  simp[execOp,go_sem,E32,h1,hmkF]
 ·intro ρ y W L hw hn hLi hLd hb hd;have E33:=hw 33 2 rfl;have h2:=hd 2 rfl
  obtain⟨g,e2,_,_⟩:=hb.k2 (hLd 2 rfl)
  refine bO (.agg #[y 2,.int .i64 0]) (ah rfl) ?_ (Qi hLi (hLd 2 rfl) hb) trivial
  rw[e2] at E33 ⊢
  simp[execOp,go_sem,E33]
 ·intro ρ y W L hw hn hLi hLd hb hd;have E35:=hw 35 4 rfl;have h4:y 4=_:=hd 4 rfl
  refine bO (.slice (some ⟨W.heap.size,0,none⟩) s s) (ah rfl) ?_ (Qd hLi (Nat.le_refl _) hb) trivial
  simp[execOp,go_sem,E35,h4,hmkS]
 ·intro ρ y W L hw hn hLi hLd hb hd;have E37:=hw 37 6 rfl;have h6:y 6=_:=hd 6 rfl
  refine bO (.slice (some ⟨W.heap.size,0,none⟩) s s) (ah rfl) ?_ (Qe hLi (Nat.le_refl _) hb) trivial
  simp[execOp,go_sem,E37,h6,hmkW]
 ·intro ρ y W L hw hn hLi hLd hb hd;have E38:=hw 38 7 rfl;have h7:=hd 7 rfl
  obtain⟨g,e2,_,_⟩:=hb.k7 (hLd 7 rfl)
  refine bO (.agg #[y 7,.slice none 0 0]) (ah rfl) ?_ (Qq hLi (hLd 7 rfl) hb) trivial
  rw[e2] at E38 ⊢
  simp[execOp,go_sem,E38]
 ·intro ρ y W L hw hn hLi hLd hb hd;have E40:=hw 40 9 rfl;have h9:y 9=_:=hd 9 rfl
  refine bO (.slice (some ⟨W.heap.size,0,none⟩) ct ct) (ah rfl) ?_ (Px hLi (Nat.le_refl _) hb) trivial
  simp[execOp,go_sem,E40,h9,hmkD]
 ·intro ρ y W L hw hn hLi hLd hb hd;have E41:=hw 41 10 rfl;have h10:=hd 10 rfl
  obtain⟨g,e2,_,_⟩:=hb.k10 (hLd 10 rfl)
  refine bO (.agg #[y 10,.slice none 0 0]) (ah rfl) ?_ (PW hLi (hLd 10 rfl) hb) trivial
  rw[e2] at E41 ⊢
  simp[execOp,go_sem,E41]
 ·intro ρ y W L hw hn hLi hLd hb hd
  refine bS nM (fun _ _ h=>ul (by decide) h) hb ?_
  have E43:=hw 43 12 rfl
  have h12:y 12=_:=hd 12 rfl
  refine aj (.agg #[.slice none 0 0,.int .i64 (ct:Int)]) (ah rfl) (by simp[execOp,go_sem,E43,h12]) rfl
 ·intro ρ y W L hw hn hLi hLd hb hd;have E34:=hw 34 3 rfl;have h3:=hd 3 rfl;have E36:=hw 36 5 rfl;have h5:=hd 5 rfl;have E39:=hw 39 8 rfl;have h8:=hd 8 rfl;have E42:=hw 42 11 rfl;have h11:=hd 11 rfl
  have E44:=hw 44 13 rfl
  have h13:y 13=_:=hd 13 rfl
  obtain⟨l2,e3⟩:=hb.k3 (hLd 3 rfl)
  obtain⟨l7,e8⟩:=hb.k8 (hLd 8 rfl)
  obtain⟨l10,e11⟩:=hb.k11 (hLd 11 rfl)
  obtain⟨g2,e2,_,_⟩:=hb.k2 l2
  obtain⟨g5,e5,_,_⟩:=hb.k5 (hLd 5 rfl)
  obtain⟨g7,e7,_,_⟩:=hb.k7 l7
  obtain⟨g10,e10,_,_⟩:=hb.k10 l10
  refine bO (.agg #[y 2,.int .i64 0,y 5,y 7,.slice none 0 0,y 10,.slice none 0 0,.slice none 0 0,.int .i64 ct,.slice none 0 0,.slice none 0 0]) (ah rfl) ?_ (PE (hLd 3 rfl) (hLd 5 rfl) (hLd 8 rfl) (hLd 11 rfl) hb) trivial
  rw[e3,e2] at E34
  rw[e5] at E36
  rw[e8,e7] at E39
  rw[e11,e10] at E42
  rw[e2,e5,e7,e10]
  simp[execOp,go_sem,E34,E36,E39,E42,E44,h13]
 intro y W3 hbW3 hRW3
 have hy2:((aR fun _=>True)).r (y 2) W3:=hRW3 2 (by decide)
 have hy3:((aR fun _=>True)).r (y 3) W3:=hRW3 3 (by decide)
 have hy5:((aR fun _=>True)).r (y 5) W3:=hRW3 5 (by decide)
 have hy7:((aR fun _=>True)).r (y 7) W3:=hRW3 7 (by decide)
 have hy8:((aR fun _=>True)).r (y 8) W3:=hRW3 8 (by decide)
 have hy10:((aR fun _=>True)).r (y 10) W3:=hRW3 10 (by decide)
 have hy11:((aR fun _=>True)).r (y 11) W3:=hRW3 11 (by decide)
 have hy14:((aR fun _=>True)).r (y 14) W3:=hRW3 14 (by decide)
 clear hRW3
 obtain⟨⟨l3,l5,l8,l11⟩,e14⟩:=hbW3.k14 rfl
 obtain⟨gf,e2,bf,kf⟩:=hbW3.k2 rfl
 obtain⟨gs,e5,bs,ks⟩:=hbW3.k5 rfl
 obtain⟨gw,e7,bw,kw⟩:=hbW3.k7 rfl
 obtain⟨gd,e10,bd,kd⟩:=hbW3.k10 rfl
 have hwd:gw≠gd:=Ou kw kd (by rw[←e7,←e10];exact hbW3.ne rfl rfl)
 have mx3:=mx1.ext hbW3.be
 have bx3:=bx1.ext hbW3.be
 have hr3:=hr1.below hbW3.be
 have hbe3:=Lib.hid (ag hb2.out hbW3.be)
 rw[e14,e2,e5,e7,e10]
 clear hy2 hy3 hy5 hy7 hy8 hy10 hy11 hy14 e14 e2 e5 e7 e10 hbW3 l3 l5 l8 l11 hmkF hmkS hmkW hmkD mx1 bx1 hr1 hb2
 go_wp2_with (refine az rfl _ _ _ rfl (w.heap.size+1) 1 _ [.slice (some ⟨gf,0,none⟩) f f,.int .i64 0,.slice (some ⟨gs,0,none⟩) s s,.slice (some ⟨gw,0,none⟩) s s,.slice none 0 0,.slice (some ⟨gd,0,none⟩) ct ct,.slice none 0 0,.slice none 0 0,.int .i64 ct,.slice none 0 0,.slice none 0 0] rfl rfl rfl _ _ mx3 (by show 1+11≤13;omega) (by kernel_rfl) (by simp[Value.oneCell']) ?_)
 intro w4 hb4 hg4
 have hk4:aD w4 (w.heap.size+1) (fD ⟨al,cl,l,Nv gf gs gw gd f s ct,none,0,[]⟩) 77:=by
  have e:fD ⟨al,cl,l,Nv gf gs gw gd f s ct,none,0,[]⟩=bq (fD ⟨al,cl,l,noH,none,0,[]⟩) 1 [.slice (some ⟨gf,0,none⟩) f f,.int .i64 0,.slice (some ⟨gs,0,none⟩) s s,.slice (some ⟨gw,0,none⟩) s s,.slice none 0 0,.slice (some ⟨gd,0,none⟩) ct ct,.slice none 0 0,.slice none 0 0,.int .i64 ct,.slice none 0 0,.slice none 0 0]:=by
   unfold fD Nv noH
   dsimp only
   rw[List.length_replicate,List.length_replicate,List.length_replicate,List.length_replicate]
   kernel_rfl
  rw[e];exact hb4
 have hm4:dz w4 (w.heap.size+1) (w.heap.size+1) ⟨al,cl,l,Nv gf gs gw gd f s ct,none,0,[]⟩:=
  NN (hr3.keep (B:=w.heap.size+1) (fun a ha hl=>Nat.lt_succ_of_lt (hra.out a ha hl)) (Nat.le_of_lt mx3.lt) hg4 (Nat.le_refl _)) (fun a ha hl=>Nat.lt_succ_of_lt (hra.out a ha hl)) (Nat.le_refl _) hk4 hf40 hs60 hc80 (by omega) (by omega) (by omega) (by omega) hwd (zf:=uP fr0) (zs:=#[.int .i64 0]) (zp:=gD zPg) rfl rfl rfl
   (kf.grown hg4 (fun e=>by have:=Option.some.inj e;omega)) (ks.grown hg4 (fun e=>by have:=Option.some.inj e;omega)) (kw.grown hg4 (fun e=>by have:=Option.some.inj e;omega)) (kd.grown hg4 (fun e=>by have:=Option.some.inj e;omega))
 have bx4:aD w4 w.heap.size (dC noH) 41:=bx3.grown hg4 (fun e=>by have:=Option.some.inj e;omega)
 have hbe4:Hid (Below w.heap.size w w4):=Lib.hid (hbe3.out.grown hg4 (Nat.le_trans (by omega) (Nat.le_of_lt mx3.lt)) (fun k hk=>by cases hk;omega))
 have hszl4:w.heap.size+2≤w4.heap.size:=hk4.lt
 clear kf ks kw kd mx3 bx3 hr3 hbe3 hb4 hg4 hk4 bf bs bw bd hwd hra hb1z
 generalize hb' : w.heap.size+1=b at hm4 hszl4 ⊢
 have hbb:=Lib.hid hb'
 clear hb'
 obtain⟨S3,hS3⟩:∃S3,S3=(⟨al,cl,l,Nv gf gs gw gd f s ct,none,0,[]⟩:MW):=⟨_,rfl⟩
 have hS3':=Lib.hid hS3
 rw[←hS3] at hm4
 have hc:=hm4.blk.cell
 unfold fD at hc
 have hfl:S3.H.m.fs.length=f:=by rw[hS3];exact List.length_replicate
 rw[hfl] at hc
 clear hfl
 have hm4q:dz w4 b b (S3.frs (uW f 0)):=by
  have e:S3.frs (uW f 0)=S3:=by rw[hS3];rfl
  rw[e];exact hm4
 have hs4q:MS w4 b S3 w4 (S3.frs (uW f 0)):=(MS.refl w4 b S3).same rfl
 have hnb4:Hid (¬jO b S3 w.heap.size):=Lib.hid (fun hk=>by
  have h1:=(hm4.kb_own hk).1
  have h2:=hbb.out
  omega)
 have hto:Hid (∀w' S',MS w4 b S3 w' S'→Below b w4 w'):=Lib.hid (fun w' S' h=>MS.to hm4 h (Nat.le_refl b))
 clear hS3 hm4
 have bx4':=Lib.hid bx4
 clear bx4
 go_upto_region 5 with (fail)
 go_loopw [55] (fun k wr => ∃q:Nat,q≤f∧k = .int .i64 q∧dz wr b b (S3.frs (uW f q))∧MS w4 b S3 wr (S3.frs (uW f q))) (fun k _=>f-(intOf k).toNat)
 case atStart=>exact⟨0,Nat.zero_le _,rfl,hm4q,hs4q⟩
 case round=>
  clear hm4q hs4q
  obtain⟨q,hq,rfl,hm,hs⟩:=hrel
  by_cases hqf:q<f
  ·have hqi:(q:Int)<(f:Int):=by omega
   have hlq:(uW f q).length=f:=Bo hq
   have hc:=hm.blk.cell
   unfold fD at hc
   dsimp only[MW.frs] at hc
   rw[hlq] at hc
   obtain⟨g,off,cap,cur,hv,hgB,hg,hgs,hgc,hgw⟩:=hm.ma.fr.put eB (by decide) q (by show q<(uW f q).length;omega)
   have haf:S3.H.af=some ⟨g,off,none⟩:=(Value.slice.inj hv).1
   have hcur:Hid (∀j u,(lZ fr0)[j]?=some u→cur[off+q*13+j]?=some u):=Lib.hid fun j u hj=>by
    have e:(S3.frs (uW f q)).H.m.fs[q]'(by show q<(uW f q).length;omega)=fr0:=Ny hqf (by omega)
    have:=hgc j u (by rw[e];exact hj)
    rw[hg.cell] at this
    exact this
   rw[haf] at hc
   have hgw':=Lib.hid hgw
   have hlq':=Lib.hid hlq
   have haf':=Lib.hid haf
   clear hv hgc hgw hlq haf
   go_wp2_with (refine az rfl _ _ _ rfl g (off+q*13+11) _ [.int .i64 (-1)] rfl rfl rfl _ _ hg (by show off+q*13+11+1≤cur.size;omega) (by kernel_rfl) (fun u hu=>by cases List.mem_singleton.1 hu;rfl) ?_)
   intro w5 hb5 hg5
   rw[Nh hgs hcur.out] at hb5
   have ho:=hgw'.out _ _ hb5
   have hset:(S3.frs (uW f q)).H.m.fs.set q frZ=uW f (q+1):=NL hqf
   have hlen:(uW f (q+1)).length=(uW f q).length:=by rw[Bo (by omega),Bo hq]
   rw[hset] at ho
   have hm5:dz w5 b b (S3.frs (uW f (q+1))):=hm.putF hg hgB hg5 (fs:=uW f (q+1)) hlen (by rw[hlen];exact ho)
   have hs5:MS w4 b S3 w5 (S3.frs (uW f (q+1))):=hs.put hg5 (.inr (by show some g∈eO S3;unfold eO;rw[haf'.out];exact List.mem_cons_self)) (fun x hx => .inl hx)
   clear hm hs hg hgs hb5 hg5 hc ho hset hlen
   go_wp2
   go_roundw
   case rel=>exact⟨q+1,by omega,by go_num,hm5,hs5⟩
   case measure=>simp[intOf];omega
  ·have hqi:¬(q:Int)<(f:Int):=by omega
   have hqe:f=q:=by omega
   subst hqe
   rw[Np] at hm hs
   go_wp2_with fail
   refine (dL _ 3 b b _ hm (by omega)).mono ?_
   rintro r w5 ⟨N,a5,c5,l5,rfl,hm5,hs5,hN,hN0⟩
   have hs5:=hs.trans hs5
   have hl5:Hid (l=[]→N=0∧l5=[]):=Lib.hid fun e=>hN0 (by show S3.l=[];rw[hS3'.out];exact e)
   have hF5:AQ f s ct S3.H.asl ((S3.frs (List.replicate f frZ)).lst a5 c5 l5).H.fi (List.replicate ct zPg) [] ((S3.frs (List.replicate f frZ)).lst a5 c5 l5):=by
    rw[hS3'.out]
    exact⟨rfl,rfl,rfl,rfl,rfl,rfl,rfl,rfl,rfl,rfl⟩
   have hfi5:((S3.frs (List.replicate f frZ)).lst a5 c5 l5).H.fi=[]:=by rw[hS3'.out];rfl
   have hls5:Hid (l=[]→((S3.frs (List.replicate f frZ)).lst a5 c5 l5).l=[]):=Lib.hid fun e=>(hl5.out e).2
   obtain⟨N,rfl⟩:=Int.eq_ofNat_of_zero_le hN.1
   have hN2:N≤2:=by omega
   clear hm hs hN hN0 hqf hqi hq
   generalize (S3.frs (List.replicate f frZ)).lst a5 c5 l5=S5 at hm5 hs5 hF5 hfi5 hls5
   go_upto_region 10 with (fail)
   go_loopw [70] (fun k wr => ∃(q:Nat) (S:MW) (bk:List Page) (qu:List (Int × Page)),q≤N∧k = .int .i64 q∧dz wr b b S∧MS w4 b S3 wr S∧Hid (AQ f s ct S3.H.asl S.H.fi bk qu S∧Fb ct bk qu (S.H.fi.map PF.fi) []∧S.H.fi.length=q∧(q=0→bk=List.replicate ct zPg∧qu=[]∧(l=[]→S.l=[])))) (fun k _=>N-(intOf k).toNat)
   case atStart=>exact⟨0,S5,_,_,Nat.zero_le _,rfl,hm5,hs5,Lib.hid ⟨hF5,by rw[hfi5];exact Fb.start hc80,by rw[hfi5];rfl,fun _=>⟨rfl,rfl,hls5.out⟩⟩⟩
   case round=>
    clear hm5 hs5 hF5 hfi5 hls5
    obtain⟨q,S,bk,qu,hq,rfl,hm,hs,hI⟩:=hrel
    obtain⟨fi0,hfi0⟩:∃fi0,S.H.fi=fi0:=⟨_,rfl⟩
    rw[hfi0] at hI
    clear hfi0
    have hl0q:Hid (fi0.length=q):=Lib.hid hI.out.2.2.1
    have hl0:Hid (fi0.length≤2):=Lib.hid (by have:=hI.out.2.2.1;omega)
    by_cases hqN:q<N
    ·have hqi:(q:Int)<(N:Int):=by omega
     go_wp2_with fail
     refine (dL _ 40 b b _ hm (by omega)).mono ?_
     rintro r w6 ⟨x,a6,c6,l6,rfl,hm6,hs6,hx,_⟩
     have hs6:=hs.trans hs6
     have hF6:Hid (AQ f s ct S3.H.asl fi0 bk qu (S.lst a6 c6 l6)):=Lib.hid (hI.out.1.lst _ _ _)
     have hx1:0≤x∧x<40:=by omega
     obtain⟨C,hC⟩:∃C:Nat,dO x=C:=⟨(dO x).toNat,by unfold dO;split<;>omega⟩
     have hC5:C≤5:=by unfold dO at hC;split at hC<;>omega
     have hC':=Lib.hid hC
     clear hm hs hx hC
     generalize S.lst a6 c6 l6=S6 at hm6 hs6 hF6
     go_wp2_with (refine aL rfl _ _ _ rfl (kX ⟨x,none,[],0⟩) rfl rfl rfl file_size (lC _) ?_)
     intro w7 hb7 fx7
     have hm7:=hm6.below hb7
     have hs67:=(MS.refl w6 b S6).below hb7
     have hnf:Hid (¬jO b S6 w6.heap.size):=Lib.hid (hm6.new (Nat.le_refl _))
     have hgB:b≤w6.heap.size:=hm6.bs
     have hgB':=Lib.hid hgB
     clear hm6 hb7
     generalize hg60:w6.heap.size=gf0 at hnf hgB fx7 ⊢
     have hg6:Hid (w6.heap.size≤gf0):=Lib.hid (Nat.le_of_eq hg60)
     clear hg60
     have hcf:=fx7.cell
     unfold kX at hcf
     go_wp2_with fail
     refine (EN x _ (by omega)).mono ?_
     rintro r w8 ⟨rfl,rfl⟩
     rw[hC'.out]
     clear hcf
     have hnp6:∀p∈fi0,True:=fun _ _=>trivial
     clear hnp6
     go_upto_region 13 with (fail)
     go_loopw [78] (fun k wr => ∃(i:Nat) (S:MW) (bk:List Page) (qu:List (Int × Page)) (xs:List Int) (xa:Option Addr) (xc:Nat),i≤C∧k = .int .i64 i∧dz wr b b S∧MS w6 b S6 wr S∧Hid (¬jO b S gf0)∧Hid (AQ f s ct S3.H.asl fi0 bk qu S∧Fb ct bk qu (fi0.map PF.fi) xs∧xs.length=i)∧aD wr gf0 (kX ⟨x,xa,xs,xc⟩) 67 ∧
      Hid (Own wr b 3 1 (jV ⟨x,xa,xs,xc⟩) xs.length (xs.map eH)∧∀g,oB xa=some g→w6.heap.size≤g∧oB S3.H.asl≠some g∧∀p∈fi0,oB p.a≠some g)) (fun k _=>C-(intOf k).toNat)
     case atStart=>exact⟨0,S6,bk,qu,[],none,0,Nat.zero_le _,rfl,hm7,hs67,hnf,Lib.hid ⟨hF6.out,hI.out.2.1,rfl⟩,fx7,Lib.hid ⟨Own.nil _ _ _ _,fun g hg=>(by cases hg)⟩⟩
     case round=>
      clear hm7 fx7 hI hF6 hs67 hnf
      obtain⟨i,S,bk,qu,xs,xa,xc,hi,rfl,hm,hs,hkf',hI,fx,ho⟩:=hrel
      by_cases hiC:i<C
      ·have hii:(i:Int)<(C:Int):=by omega
       go_upto_region 16 with (fail)
       have hkx:∀g,(jV ⟨x,xa,xs,xc⟩).ownBlock=some g→¬jO b S g:=fun g hg=>by
        obtain⟨cs,hk⟩:=jd ho.out.1 g hg
        refine hm.kb_int hk ?_
        rw[hI.out.1.asl]
        exact (ho.out.2 g (by unfold jV at hg;rw[jv] at hg;exact hg)).2.1
       have hkx':=Lib.hid hkx
       clear hkx
       go_cut [14] (fun s14 wx => ∃(n:Nat) (a:Option Addr) (c:Nat) (l:List UInt8),s14 = .int .i64 n∧n<256∧dz wx b b (S.lst a c l)∧MS wr b S wx (S.lst a c l)∧aD wx gf0 (kX ⟨x,xa,xs,xc⟩) 67∧Hid (Own wx b 3 1 (jV ⟨x,xa,xs,xc⟩) xs.length (xs.map eH)))
       case first=>
        go_wp2_with fail
        all_goals
         refine (dL S _ b b _ hm (by omega)).mono ?_
         rintro r w8 ⟨n,a8,c8,l8,rfl,hm8,hs8,hn,_⟩
         obtain⟨n,rfl⟩:=Int.eq_ofNat_of_zero_le hn.1
         have hn256:(n:Int)<256:=hn.2.1
         have fx8:=hs8.blkN fx hkf'.out
         have ho8:Hid (Own w8 b 3 1 (jV ⟨x,xa,xs,xc⟩) xs.length (xs.map eH)):=Lib.hid (hs8.ownN ho.out.1 hkx'.out)
         clear hm fx hn
         go_wp2
         go_meet
         case rel=>exact⟨n,a8,c8,l8,rfl,by omega,hm8,hs8,fx8,ho8⟩
       case rest=>
       obtain⟨n,a8,c8,l8,rfl,hn256,hm8,hs8,fx8,ho8'⟩:=hcut
       have ho8:Hid (Own wc b 3 1 (jV ⟨x,xa,xs,xc⟩) xs.length (xs.map eH)∧∀g,oB xa=some g→w6.heap.size≤g∧oB S3.H.asl≠some g∧∀p∈fi0,oB p.a≠some g):=Lib.hid ⟨ho8'.out,ho.out.2⟩
       clear ho8'
       have hF8:Hid (AQ f s ct S3.H.asl fi0 bk qu (S.lst a8 c8 l8)∧Fb ct bk qu (fi0.map PF.fi) xs∧xs.length=i):=Lib.hid ⟨hI.out.1.lst _ _ _,hI.out.2⟩
       have hs8:=hs.trans hs8
       have hkf8:Hid (¬jO b (S.lst a8 c8 l8) gf0):=hkf'
       have hkx8:Hid (∀g,(jV ⟨x,xa,xs,xc⟩).ownBlock=some g→¬jO b (S.lst a8 c8 l8) g):=hkx'
       clear hm hs hI fx ho hkf' hkx'
       generalize S.lst a8 c8 l8=S8 at hm8 hs8 hF8 hkf8 hkx8
       go_upto_region 17 with (fail)
       go_cut [109] (fun s109 wx => ∃(β:Bool) (a:Option Addr) (c:Nat) (l:List UInt8),s109 = .bool β∧dz wx b b (S8.lst a c l)∧MS wc b S8 wx (S8.lst a c l)∧aD wx gf0 (kX ⟨x,xa,xs,xc⟩) 67∧Hid (Own wx b 3 1 (jV ⟨x,xa,xs,xc⟩) xs.length (xs.map eH))∧Hid (β=true→n<ct∧¬(n:Int)∈(fi0.map PF.fi).flatMap Fi.b++xs))
       case first=>
        have hgf8:gf0<wc.heap.size:=fx8.lt
        have hl8:S8.H.fi.length≤5:=by
         have e1:=hF8.out.1.fi
         have e2:=hl0.out
         rw[e1];omega
        by_cases hnc:n<ct
        ·have hdn:(n:Int)<(ct:Int):=by omega
         cases hu:eY (bY (S8.H.fi++[(⟨x,xa,xs,xc⟩:PF)]) 0) (n:Int) with
         | true=>
          refine dW 25 [_,_,_,_,.r 4 ((aR fun _=>True)),_,_,_,_,_,.v (.slice S8.H.ai S8.H.fi.length S8.H.ci),.r 11 ((aR fun _=>True)),.v (.agg (kX ⟨x,xa,xs,xc⟩)),.r 13 ((aR fun _=>True)),.r 14 ((aR fun _=>True)),.r 15 ((aR fun _=>True)),_,.v (.bool true),_,_,_,_,_,_,.v (.bool false)] (zm S8 b b wc gf0 ⟨x,xa,xs,xc⟩) bW (fun y=>OC hm8 fx8 ho8.out.1 y) (Qk bW rfl (Qk bW rfl (Qb bW (.bool true) (by simp[go_sem,hdn]) rfl rfl rfl rfl rfl (Qk bW rfl (ae ?_ (Qk bW rfl (Qk bW rfl (Qf bW b 1 rfl rfl (Qf bW b 8 rfl rfl (Qf bW b 8 rfl rfl (ae ?_ (ae ?_ (ae ?_ (ae ?_ (ae ?_ (ae ?_ (Qk bW rfl (ae ?_ (Qk bW rfl (Qk bW rfl (Qk bW rfl (Qk bW rfl (Qk bW rfl (Qk bW rfl (Qk bW rfl (aB) (fun _ _ _ _ hLd h=>dm (by decide) h)) (fun _ _ _ _ hLd h=>dm (by decide) h)) (fun _ _ _ _ hLd h=>dm (by decide) h)) (fun _ _ _ _ hLd h=>dm (by decide) h)) (fun _ _ _ _ hLd h=>dm (by decide) h)) (fun _ _ _ _ hLd h=>dm (by decide) h)) (fun _ _ _ _ hLd h=>dm (by decide) h))) (fun _ _ _ _ hLd h=>dm (by decide) h)))))))) (fun _ _ _ _ hLd h=>dm (by decide) h)) (fun _ _ _ _ hLd h=>dm (by decide) h)) (fun _ _ _ _ hLd h=>dm (by decide) h)) (fun _ _ _ _ hLd h=>dm (by decide) h)) (fun _ _ _ _ hLd h=>dm (by decide) h))) (fun _ _ _ _ hLd h=>dm (by decide) h)) (fun _ _ _ _ hLd h=>dm (by decide) h)) (fun _ _ _ _ hLd h=>dm (by decide) h)) (fun _ _ _ _ hLd h=>dm (by decide) h)) (fun _=>rfl) rfl ?_
          ·intro ρ y W L hw hn hLi hLd hb hd
           refine bO (.slice (some ⟨W.heap.size,0,none⟩) 0 0) (aQ 3 88 true true rfl rfl ((hw 88 3 rfl).trans (hd 3 rfl))) ?_ (Ov hb) trivial
           simp[execOp,go_sem]
          ·intro ρ y W L hw hn hLi hLd hb hd
           refine bS bW (fun _ _ h=>dm (by decide) h) hb ?_
           have E94:=hw 94 9 rfl
           have h9:y 9=_:=hd 9 rfl
           obtain⟨⟨a0,c0,l0,m1,m2⟩,m3⟩:=hb
           refine aj (.slice S8.H.ai S8.H.fi.length S8.H.ci) (aQ 3 88 true true rfl rfl ((hw 88 3 rfl).trans (hd 3 rfl))) (by simp[execOp,go_sem,E94,h9,m1.blk.cell,fD,MW.lst]) rfl
          ·intro ρ y W L hw hn hLi hLd hb hd;have E89:=hw 89 4 rfl;have h4:=hd 4 rfl;have E95:=hw 95 10 rfl;have h10:y 10=_:=hd 10 rfl
           obtain⟨g,hg1,hg2⟩:=hb.2.2.2.1 (hLd 4 rfl) hLi
           have hsz:=hb.2.2.2.2.2.2.2.1
           obtain⟨a0,c0,l0,m1,m2⟩:=hb.1
           have m3:EU W S8.H.ai S8.H.ci S8.H.fi:=m1.ma.rd.st
           refine fu (aQ 3 88 true true rfl rfl ((hw 88 3 rfl).trans (hd 3 rfl))) (uM _ _ _ rfl wc.heap.size 67 _ 2 32 underlying35 file_info rfl (by decide) g (E89.trans hg1) hg2 S8.H.ai S8.H.fi.length S8.H.ci (S8.H.fi.flatMap lU) (E95.trans h10) m3.nl m3.le (by rw[Pw.flat_len lU 2 iC]) m3.rd (by unfold maxLen;omega) (by omega) hsz) (fun v W1 h=>KG hb h.1 h.2) (fun _ _ _=>trivial)
          ·intro ρ y W L hw hn hLi hLd hb hd
           refine bS bW (fun _ _ h=>dm (by decide) h) hb ?_
           have E11:ρ (.tmp 11) = .pointer (some ⟨gf0,0,none⟩):=(hn (.tmp 11) rfl).trans rfl
           have m3:=hb.2.1
           refine aj (.agg (kX ⟨x,xa,xs,xc⟩)) (aQ 3 88 true true rfl rfl ((hw 88 3 rfl).trans (hd 3 rfl))) (bI rfl E11 m3 underlying67 rfl file_size) rfl
          ·intro ρ y W L hw hn hLi hLd hb hd;have E97:=hw 97 12 rfl;have h12:y 12=_:=hd 12 rfl
           have hsz:=hb.2.2.2.2.2.2.2.1
           refine bO (.slice (some ⟨W.heap.size,0,none⟩) 1 1) (aQ 3 88 true true rfl rfl ((hw 88 3 rfl).trans (hd 3 rfl))) ?_ (Ky (W':=W.alloc (.cells (kX ⟨x,xa,xs,xc⟩) 67)) hb ((Below.refl _ _).alloc (Nat.le_refl _) _) (GQ hsz _)) trivial
           simp[execOp,go_sem,E97.trans h12,kX]
          ·intro ρ y W L hw hn hLi hLd hb hd;have E96:=hw 96 11 rfl;have h11:=hd 11 rfl;have E98:=hw 98 13 rfl;have h13:=hd 13 rfl
           have hsz:=hb.2.2.2.2.2.2.2.1
           have hv:=hb.2.2.2.2.1 (hLd 11 rfl) hLi
           obtain⟨a,e,hx1,k1,k2,k3,k4⟩:=(hb.2.2.2.2.2.1 (hLd 13 rfl) hLi).rd
           refine fu (aQ 3 88 true true rfl rfl ((hw 88 3 rfl).trans (hd 3 rfl))) (jq _ _ _ rfl wc.heap.size 67 _ 2 32 underlying35 file_info rfl (by decide) (y 11) S8.H.fi.length _ E96 hv a 1 e (lU ⟨x,xa,xs,xc⟩) (E98.trans hx1) k3 k1 rfl k4 (bv (lC _)) (by unfold maxLen;omega) (by omega) hsz) (fun v W1 h=>MC hm8 hgf8 hb (hLd 11 rfl) hLi h.2.1 h.1) (fun _ _ _=>trivial)
          ·intro ρ y W L hw hn hLi hLd hb hd;have E99:=hw 99 14 rfl;have h14:=hd 14 rfl
           obtain⟨a,c,e14,_⟩:=wR hb (hLd 14 rfl)
           refine bO (.agg #[y 14,.int .i64 0]) (aQ 3 88 true true rfl rfl ((hw 88 3 rfl).trans (hd 3 rfl))) ?_ (Ls (hLd 14 rfl) hb) trivial
           rw[e14] at E99 ⊢
           simp[execOp,go_sem,E99]
          ·intro ρ y W L hw hn hLi hLd hb hd;have E100:=hw 100 15 rfl;have h15:=hd 15 rfl;have E101:=hw 101 16 rfl;have h16:y 16=_:=hd 16 rfl
           have EF:∀f,ρ (.func f) = .func (.func f) #[] #[]:=fun f=>hn (.func f) trivial
           obtain⟨l14,e15⟩:=hb.2.2.2.2.2.2.2.2 (hLd 15 rfl)
           obtain⟨a,c,e14,hFs⟩:=wR hb l14
           rw[e15,e14] at E100
           refine eu _ _ (aQ 3 88 true true rfl rfl ((hw 88 3 rfl).trans (hd 3 rfl))) (aN rfl (EF _) func32 (by kernel_rfl) (by kernel_rfl) (by simp only[List.map_toArray,List.map_cons,List.map_nil,E100,E101,h16,EF];rfl)) ?_
           have hus:=zT (S8.H.fi++[⟨x,xa,xs,xc⟩]) 0 n a c W hFs
           unfold JU at hus
           rw[hu] at hus
           refine hus.mono ?_
           rintro r w1 ⟨hr1,hb1⟩
           exact⟨_,hr1,dm (by decide) (bW _ _ _ _ hb1 hb),rfl⟩
          intro y W9 hbW9 hRW9
          have hy4:((aR fun _=>True)).r (y 4) W9:=hRW9 4 (by decide)
          have hy11:((aR fun _=>True)).r (y 11) W9:=hRW9 11 (by decide)
          have hy13:((aR fun _=>True)).r (y 13) W9:=hRW9 13 (by decide)
          have hy14:((aR fun _=>True)).r (y 14) W9:=hRW9 14 (by decide)
          have hy15:((aR fun _=>True)).r (y 15) W9:=hRW9 15 (by decide)
          clear hRW9
          have hbJ:=hbW9.1
          obtain⟨a9,c9,l9,hm9,hs9⟩:=hbJ
          have fx9:=hbW9.2.1
          have ho9:=Lib.hid hbW9.2.2.1
          clear hbW9 hm8 hs8 fx8 ho8
          go_wp2
          go_meet
          case rel=>exact⟨false,a9,c9,l9,rfl,hm9,hs9,fx9,ho9,Lib.hid fun e=>(by cases e)⟩
         | false=>
          refine dW 25 [_,_,_,_,.r 4 ((aR fun _=>True)),_,_,_,_,_,.v (.slice S8.H.ai S8.H.fi.length S8.H.ci),.r 11 ((aR fun _=>True)),.v (.agg (kX ⟨x,xa,xs,xc⟩)),.r 13 ((aR fun _=>True)),.r 14 ((aR fun _=>True)),.r 15 ((aR fun _=>True)),_,.v (.bool false),_,_,_,_,.r 22 ((aR fun v => ∃x:Int,v = .int .i64 x)),.r 23 ((aR fun v => ∃u,v = .bool u)),.r 24 ((aR fun v => ∃u,v = .bool u))] (zm S8 b b wc gf0 ⟨x,xa,xs,xc⟩) bW (fun y=>OC hm8 fx8 ho8.out.1 y) (Qk bW rfl (Qk bW rfl (Qb bW (.bool true) (by simp[go_sem,hdn]) rfl rfl rfl rfl rfl (Qk bW rfl (ae ?_ (Qk bW rfl (Qk bW rfl (Qf bW b 1 rfl rfl (Qf bW b 8 rfl rfl (Qf bW b 8 rfl rfl (ae ?_ (ae ?_ (ae ?_ (ae ?_ (ae ?_ (ae ?_ (Qk bW rfl (ae ?_ (Qk bW rfl (Qk bW rfl (Qk bW rfl (Qk bW rfl (ae ?_ (ae ?_ (ae ?_ (aB)))) (fun _ _ _ _ hLd h=>dm (by decide) h)) (fun _ _ _ _ hLd h=>dm (by decide) h)) (fun _ _ _ _ hLd h=>dm (by decide) h)) (fun _ _ _ _ hLd h=>dm (by decide) h))) (fun _ _ _ _ hLd h=>dm (by decide) h)))))))) (fun _ _ _ _ hLd h=>dm (by decide) h)) (fun _ _ _ _ hLd h=>dm (by decide) h)) (fun _ _ _ _ hLd h=>dm (by decide) h)) (fun _ _ _ _ hLd h=>dm (by decide) h)) (fun _ _ _ _ hLd h=>dm (by decide) h))) (fun _ _ _ _ hLd h=>dm (by decide) h)) (fun _ _ _ _ hLd h=>dm (by decide) h)) (fun _ _ _ _ hLd h=>dm (by decide) h)) (fun _ _ _ _ hLd h=>dm (by decide) h)) (fun _=>rfl) rfl ?_
          ·intro ρ y W L hw hn hLi hLd hb hd
           refine bO (.slice (some ⟨W.heap.size,0,none⟩) 0 0) (aQ 3 88 true true rfl rfl ((hw 88 3 rfl).trans (hd 3 rfl))) ?_ (Ov hb) trivial
           simp[execOp,go_sem]
          ·intro ρ y W L hw hn hLi hLd hb hd
           refine bS bW (fun _ _ h=>dm (by decide) h) hb ?_
           have E94:=hw 94 9 rfl
           have h9:y 9=_:=hd 9 rfl
           obtain⟨⟨a0,c0,l0,m1,m2⟩,m3⟩:=hb
           refine aj (.slice S8.H.ai S8.H.fi.length S8.H.ci) (aQ 3 88 true true rfl rfl ((hw 88 3 rfl).trans (hd 3 rfl))) (by simp[execOp,go_sem,E94,h9,m1.blk.cell,fD,MW.lst]) rfl
          ·intro ρ y W L hw hn hLi hLd hb hd;have E89:=hw 89 4 rfl;have h4:=hd 4 rfl;have E95:=hw 95 10 rfl;have h10:y 10=_:=hd 10 rfl
           obtain⟨g,hg1,hg2⟩:=hb.2.2.2.1 (hLd 4 rfl) hLi
           have hsz:=hb.2.2.2.2.2.2.2.1
           obtain⟨a0,c0,l0,m1,m2⟩:=hb.1
           have m3:EU W S8.H.ai S8.H.ci S8.H.fi:=m1.ma.rd.st
           refine fu (aQ 3 88 true true rfl rfl ((hw 88 3 rfl).trans (hd 3 rfl))) (uM _ _ _ rfl wc.heap.size 67 _ 2 32 underlying35 file_info rfl (by decide) g (E89.trans hg1) hg2 S8.H.ai S8.H.fi.length S8.H.ci (S8.H.fi.flatMap lU) (E95.trans h10) m3.nl m3.le (by rw[Pw.flat_len lU 2 iC]) m3.rd (by unfold maxLen;omega) (by omega) hsz) (fun v W1 h=>KG hb h.1 h.2) (fun _ _ _=>trivial)
          ·intro ρ y W L hw hn hLi hLd hb hd
           refine bS bW (fun _ _ h=>dm (by decide) h) hb ?_
           have E11:ρ (.tmp 11) = .pointer (some ⟨gf0,0,none⟩):=(hn (.tmp 11) rfl).trans rfl
           have m3:=hb.2.1
           refine aj (.agg (kX ⟨x,xa,xs,xc⟩)) (aQ 3 88 true true rfl rfl ((hw 88 3 rfl).trans (hd 3 rfl))) (bI rfl E11 m3 underlying67 rfl file_size) rfl
          ·intro ρ y W L hw hn hLi hLd hb hd;have E97:=hw 97 12 rfl;have h12:y 12=_:=hd 12 rfl
           have hsz:=hb.2.2.2.2.2.2.2.1
           refine bO (.slice (some ⟨W.heap.size,0,none⟩) 1 1) (aQ 3 88 true true rfl rfl ((hw 88 3 rfl).trans (hd 3 rfl))) ?_ (Ky (W':=W.alloc (.cells (kX ⟨x,xa,xs,xc⟩) 67)) hb ((Below.refl _ _).alloc (Nat.le_refl _) _) (GQ hsz _)) trivial
           simp[execOp,go_sem,E97.trans h12,kX]
          ·intro ρ y W L hw hn hLi hLd hb hd;have E96:=hw 96 11 rfl;have h11:=hd 11 rfl;have E98:=hw 98 13 rfl;have h13:=hd 13 rfl
           have hsz:=hb.2.2.2.2.2.2.2.1
           have hv:=hb.2.2.2.2.1 (hLd 11 rfl) hLi
           obtain⟨a,e,hx1,k1,k2,k3,k4⟩:=(hb.2.2.2.2.2.1 (hLd 13 rfl) hLi).rd
           refine fu (aQ 3 88 true true rfl rfl ((hw 88 3 rfl).trans (hd 3 rfl))) (jq _ _ _ rfl wc.heap.size 67 _ 2 32 underlying35 file_info rfl (by decide) (y 11) S8.H.fi.length _ E96 hv a 1 e (lU ⟨x,xa,xs,xc⟩) (E98.trans hx1) k3 k1 rfl k4 (bv (lC _)) (by unfold maxLen;omega) (by omega) hsz) (fun v W1 h=>MC hm8 hgf8 hb (hLd 11 rfl) hLi h.2.1 h.1) (fun _ _ _=>trivial)
          ·intro ρ y W L hw hn hLi hLd hb hd;have E99:=hw 99 14 rfl;have h14:=hd 14 rfl
           obtain⟨a,c,e14,_⟩:=wR hb (hLd 14 rfl)
           refine bO (.agg #[y 14,.int .i64 0]) (aQ 3 88 true true rfl rfl ((hw 88 3 rfl).trans (hd 3 rfl))) ?_ (Ls (hLd 14 rfl) hb) trivial
           rw[e14] at E99 ⊢
           simp[execOp,go_sem,E99]
          ·intro ρ y W L hw hn hLi hLd hb hd;have E100:=hw 100 15 rfl;have h15:=hd 15 rfl;have E101:=hw 101 16 rfl;have h16:y 16=_:=hd 16 rfl
           have EF:∀f,ρ (.func f) = .func (.func f) #[] #[]:=fun f=>hn (.func f) trivial
           obtain⟨l14,e15⟩:=hb.2.2.2.2.2.2.2.2 (hLd 15 rfl)
           obtain⟨a,c,e14,hFs⟩:=wR hb l14
           rw[e15,e14] at E100
           refine eu _ _ (aQ 3 88 true true rfl rfl ((hw 88 3 rfl).trans (hd 3 rfl))) (aN rfl (EF _) func32 (by kernel_rfl) (by kernel_rfl) (by simp only[List.map_toArray,List.map_cons,List.map_nil,E100,E101,h16,EF];rfl)) ?_
           have hus:=zT (S8.H.fi++[⟨x,xa,xs,xc⟩]) 0 n a c W hFs
           unfold JU at hus
           rw[hu] at hus
           refine hus.mono ?_
           rintro r w1 ⟨hr1,hb1⟩
           exact⟨_,hr1,dm (by decide) (bW _ _ _ _ hb1 hb),rfl⟩
          ·intro ρ y W L hw hn hLi hLd hb hd;have E106:=hw 106 21 rfl;have h21:y 21=_:=hd 21 rfl
           have EC:∀v,ρ (.const v)=v:=fun v=>hn (.const v) trivial
           have EF:∀f,ρ (.func f) = .func (.func f) #[] #[]:=fun f=>hn (.func f) trivial
           refine eu _ _ (aQ 20 105 true true rfl rfl ((hw 105 20 rfl).trans (hd 20 rfl))) (aN rfl (EF _) func30 (by kernel_rfl) (by kernel_rfl) (by simp only[List.map_toArray,List.map_cons,List.map_nil,E106,h21,EC,EF];rfl)) ?_
           exact Ku (by decide) hm8 hkf8.out hkx8.out 3 (by omega) hb fun x _ _ _=>⟨x,rfl⟩
          ·intro ρ y W L hw hn hLi hLd hb hd
           refine bS bW (fun _ _ h=>dm (by decide) h) hb ?_
           have E107:=hw 107 22 rfl
           have h22:=hd 22 rfl
           obtain⟨x,hx⟩:=h22
           refine aj _ (aQ 20 105 true true rfl rfl ((hw 105 20 rfl).trans (hd 20 rfl))) (lH rfl (E107.trans hx) (hn (.const _) trivial) (by simp[go_sem];rfl)) ⟨_,rfl⟩
          ·intro ρ y W L hw hn hLi hLd hb hd
           refine bS bW (fun _ _ h=>dm (by decide) h) hb ?_
           have E105:=hw 105 20 rfl
           have h20:y 20=_:=hd 20 rfl
           have E108:=hw 108 23 rfl
           have h23:=hd 23 rfl
           obtain⟨u,hu9⟩:=h23
           refine aj (.bool u) (ah rfl) (lS rfl (E105.trans h20) (by simpa using E108.trans hu9)) ⟨_,rfl⟩
          intro y W9 hbW9 hRW9
          have hy4:((aR fun _=>True)).r (y 4) W9:=hRW9 4 (by decide)
          have hy11:((aR fun _=>True)).r (y 11) W9:=hRW9 11 (by decide)
          have hy13:((aR fun _=>True)).r (y 13) W9:=hRW9 13 (by decide)
          have hy14:((aR fun _=>True)).r (y 14) W9:=hRW9 14 (by decide)
          have hy15:((aR fun _=>True)).r (y 15) W9:=hRW9 15 (by decide)
          have hy22:((aR fun v => ∃x:Int,v = .int .i64 x)).r (y 22) W9:=hRW9 22 (by decide)
          have hy23:((aR fun v => ∃u,v = .bool u)).r (y 23) W9:=hRW9 23 (by decide)
          have hy24:((aR fun v => ∃u,v = .bool u)).r (y 24) W9:=hRW9 24 (by decide)
          clear hRW9
          have hbJ:=hbW9.1
          obtain⟨a9,c9,l9,hm9,hs9⟩:=hbJ
          have fx9:=hbW9.2.1
          have ho9:=Lib.hid hbW9.2.2.1
          obtain⟨β,hβ⟩:=hy24
          rw[hβ]
          clear hbW9 hm8 hs8 fx8 ho8 hβ
          have hnu:Hid (n<ct∧¬(n:Int)∈(fi0.map PF.fi).flatMap Fi.b++xs):=Lib.hid ⟨hnc,fun hmem=>by
           have e1:=hF8.out.1.fi
           unfold eY at hu
           rw[qY,e1] at hu
           have h2:¬(n:Int)∈jr (fi0++[(⟨x,xa,xs,xc⟩:PF)]):=of_decide_eq_false hu
           refine h2 ?_
           unfold jr
           rw[List.flatMap_append]
           rcases List.mem_append.1 hmem with h3|h3
           ·rw[List.flatMap_map] at h3
            exact List.mem_append_left _ h3
           ·exact List.mem_append_right _ (by simpa using h3)⟩
          go_wp2
          go_meet
          case rel=>exact⟨β,a9,c9,l9,rfl,hm9,hs9,fx9,ho9,Lib.hid fun _=>hnu.out⟩
        ·have hdn:¬(n:Int)<(ct:Int):=by omega
         refine aG 25 [_,_,_,_,_,_,_,_,_,_,_,_,_,_,_,_,_,_,_,_,_,_,_,_,.v (.bool false)] (Gk rfl (Gk rfl (Gb (.bool false) (by simp[go_sem,hdn]) rfl rfl rfl rfl rfl (Gk rfl (Gk rfl (Gk rfl (Gk rfl (Gk rfl (Gk rfl (Gk rfl (Gk rfl (Gk rfl (Gk rfl (Gk rfl (Gk rfl (Gk rfl (Gk rfl (Gk rfl (Gk rfl (Gk rfl (Gk rfl (Gk rfl (Gk rfl (Gk rfl (Gk rfl (aB)))))))))))))))))))))))))) (fun _=>rfl) rfl ?_
         intro y W9 hbW9 _
         have hm9:=hm8.below hbW9
         have hs9:=(MS.refl wc b S8).below hbW9
         have fx9:=fx8.ext hbW9
         have ho9:=Lib.hid (ho8.out.1.below hbW9)
         clear hbW9 hm8 fx8 ho8
         go_wp2
         go_meet
         case rel=>exact⟨false,S8.al,S8.cl,S8.l,rfl,hm9,hs9,fx9,ho9,Lib.hid fun e=>(by cases e)⟩
       case rest=>
       obtain⟨β,a9,c9,l9,rfl,hm9,hs9,fx9,ho9,hβ⟩:=hcut
       have hap:=Lib.hid ho8.out.2
       have hs9:=hs8.trans hs9
       have hF9:Hid (AQ f s ct S3.H.asl fi0 bk qu (S8.lst a9 c9 l9)∧Fb ct bk qu (fi0.map PF.fi) xs∧xs.length=i):=Lib.hid ⟨hF8.out.1.lst _ _ _,hF8.out.2⟩
       have hkf9:Hid (¬jO b (S8.lst a9 c9 l9) gf0):=hkf8
       have hkx9:Hid (∀g,(jV ⟨x,xa,xs,xc⟩).ownBlock=some g→¬jO b (S8.lst a9 c9 l9) g):=hkx8
       clear hm8 hs8 hF8 fx8 ho8 hkf8 hkx8
       generalize S8.lst a9 c9 l9=S9 at hm9 hs9 hF9 hkf9 hkx9
       go_upto_if 109 with (fail)
       have hF8l:Hid (xs.length=i):=Lib.hid hF9.out.2.2
       have hF10l:Hid (xs.length≤C):=Lib.hid (by have:=hF9.out.2.2;omega)
       go_cut [13] (fun s13 wx => ∃(v:Int) (S:MW) (bk:List Page) (qu:List (Int × Page)),s13 = .int .i64 v∧dz wx b b S∧MS w6 b S6 wx S∧Hid (¬jO b S gf0)∧Hid (AQ f s ct S3.H.asl fi0 bk qu S∧Fb ct bk qu (fi0.map PF.fi) (xs++[v]))∧aD wx gf0 (kX ⟨x,xa,xs,xc⟩) 67∧Hid (Own wx b 3 1 (jV ⟨x,xa,xs,xc⟩) xs.length (xs.map eH)))
       case first=>
        cases β with
        | false=>
         go_wp2
         go_meet
         case rel=>exact⟨-1,S9,bk,qu,rfl,hm9,hs9,hkf9,Lib.hid ⟨hF9.out.1,hF9.out.2.1.none⟩,fx9,ho9⟩
        | true=>
         have hnn:=Lib.hid (hβ.out rfl)
         clear hβ
         go_wp2_with fail
         refine (rA S9 b b _ hm9).mono ?_
         rintro r w10 ⟨P,a10,c10,l10,rfl,hm10,hs10⟩
         have fx10:=hs10.blkN fx9 hkf9.out
         have ho10:Hid (Own w10 b 3 1 (jV ⟨x,xa,xs,xc⟩) xs.length (xs.map eH)):=Lib.hid (hs10.ownN ho9.out hkx9.out)
         have hs10:=hs9.trans hs10
         have hF10:Hid (AQ f s ct S3.H.asl fi0 bk qu (S9.lst a10 c10 l10)∧Fb ct bk qu (fi0.map PF.fi) xs∧xs.length=i):=Lib.hid ⟨hF9.out.1.lst _ _ _,hF9.out.2⟩
         have hkf10:Hid (¬jO b (S9.lst a10 c10 l10) gf0):=hkf9
         have hkx10:Hid (∀g,(jV ⟨x,xa,xs,xc⟩).ownBlock=some g→¬jO b (S9.lst a10 c10 l10) g):=hkx9
         clear hm9 hs9 hF9 fx9 ho9 hkf9 hkx9
         generalize S9.lst a10 c10 l10=S10 at hm10 hs10 hF10 hkf10 hkx10
         go_wp2_with (refine aL rfl _ _ _ rfl (gD P) rfl rfl rfl psize (iL P) ?_)
         intro w11 hb11 px11
         have hm11:=hm10.below hb11
         have hs11:=hs10.below hb11
         have fx11:=fx10.ext hb11
         have ho11:Hid (Own w11 b 3 1 (jV ⟨x,xa,xs,xc⟩) xs.length (xs.map eH)):=Lib.hid (ho10.out.below hb11)
         have hnp:=Lib.hid (hm10.new (Nat.le_refl _))
         have hp0:=Lib.hid hs10.size
         have hpB:b≤w10.heap.size:=hm10.bs
         have hpf:Hid (w10.heap.size≠gf0):=Lib.hid (fun e=>by have:=fx10.lt;omega)
         clear hm10 hs10 fx10 ho10 hb11
         generalize w10.heap.size=gp at *
         go_upto_region 21 with (fail)
         go_loopw [113] (fun j wr => ∃k:Nat,k≤8∧j = .int .i64 k∧dz wr b b S10∧MS w6 b S6 wr S10∧aD wr gp (gD (gG P (x-(i:Int)*8) k)) 79∧aD wr gf0 (kX ⟨x,xa,xs,xc⟩) 67∧Hid (Own wr b 3 1 (jV ⟨x,xa,xs,xc⟩) xs.length (xs.map eH))) (fun j _=>8-(intOf j).toNat)
         case atStart=>exact⟨0,by omega,rfl,hm11,hs11,by rw[show gG P (x-(i:Int)*8) 0=P from by ext j hj;simp[gG]];exact px11,fx11,ho11⟩
         case round=>
          clear hm11 hs11 px11 fx11 ho11
          obtain⟨k,hk,rfl,hm,hs,px,fx,ho⟩:=hrel
          by_cases hk8:k<8
          ·have hki:(k:Int)<8:=by omega
           have hcf:=fx.cell
           unfold kX at hcf
           have hw1:IntKind.i64.wrap (8*(i:Int))=8*(i:Int):=IntWalk.i64_in _ (by omega)
           have hw2:IntKind.i64.wrap (8*(i:Int)+(k:Int))=8*(i:Int)+(k:Int):=IntWalk.i64_in _ (by omega)
           by_cases hge:x≤8*(i:Int)+k
           ·have hset:Hid ((gD (gG P (x-(i:Int)*8) k)).setIfInBounds k (.int .u8 0)=gD (gG P (x-(i:Int)*8) (k+1))):=Lib.hid (by
             rw[←vB P _ k hk8 (by omega)];exact wY _ k hk8 0)
            generalize hT:gG P (x-(i:Int)*8) k=T at px hset
            clear hT
            go_wp2_with (refine az rfl _ _ _ rfl gp k _ [.int .u8 0] rfl rfl rfl _ _ px (by show k+1≤8;omega) (by kernel_rfl) (fun u hu=>by cases List.mem_singleton.1 hu;rfl) ?_)
            intro w12 px12 hg12
            rw[Pw.putAt_one,hset.out] at px12
            have hm12:=hm.locT px (by decide) hnp.out hpB hg12
            have hs12:=hs.loc hg12 hp0.out
            have fx12:=fx.grown hg12 (fun e=>hpf.out (by have:=Option.some.inj e;omega))
            have ho12:Hid (Own w12 b 3 1 (jV ⟨x,xa,xs,xc⟩) xs.length (xs.map eH)):=Lib.hid (ak ho.out px (by decide) hg12)
            clear hm hs px hg12 hcf fx ho
            go_wp2
            go_roundw
            case rel=>exact⟨k+1,by omega,by go_num,hm12,hs12,px12,fx12,ho12⟩
            case measure=>simp[intOf];omega
           ·have hset:gG P (x-(i:Int)*8) k=gG P (x-(i:Int)*8) (k+1):=by
             ext j hj
             simp only[gG,Vector.getElem_ofFn]
             by_cases e:x-(i:Int)*8≤(j:Int)
             ·rw[if_neg (by omega),if_neg (by omega)]
             ·rw[if_neg (by omega),if_neg (by omega)]
            rw[hset] at px
            clear hset
            go_wp2
            go_roundw
            case rel=>exact⟨k+1,by omega,by go_num,hm,hs,px,fx,ho⟩
            case measure=>simp[intOf];omega
          ·have hki:¬(k:Int)<8:=by omega
           rw[vM _ _ k (by omega)] at px
           generalize dS P (x-(i:Int)*8)=PC at px
           have hncn:n<ct:=hnn.out.1
           have hdl:S10.H.dk.blocks.length=ct:=by rw[hF10.out.1.dk];exact hF10.out.2.1.cl.1
           obtain⟨g,off,cap,cur,hv,hgB,hg,hgs,hgc,hgw⟩:=hm.ma.dk.b.put jo (by decide) n (by rw[hdl];exact hncn)
           have hdb:S10.H.db=some ⟨g,off,none⟩:=(Value.slice.inj hv).1
           have hgw':=Lib.hid hgw
           have hdl':=Lib.hid hdl
           have hdb':=Lib.hid hdb
           have hpg:Hid (gp≠g):=Lib.hid (fun e=>hnp.out (by rw[e];exact .inr (by simp only[eO,hdb];simp[oB,Value.ownBlock])))
           have hfg:Hid (gf0≠g):=Lib.hid (fun e=>hkf10.out (by rw[e];exact .inr (by simp only[eO,hdb];simp[oB,Value.ownBlock])))
           have hkg:Hid (jO b S10 g):=Lib.hid (.inr (by simp only[eO,hdb];simp[oB,Value.ownBlock]))
           clear hv hgc hgw hdl hdb
           go_upto_region 26 with (fail)
           refine aG 9 [_,_,_,_,_,_,_,_,_] (Gk rfl (Gk rfl (Gf b 1 rfl rfl (Gf b 6 rfl rfl (Gf b 6 rfl rfl (Gl hm.blk (V:=.slice (some ⟨g,off,none⟩) ct S10.H.cdb) (by simp[fD,hdb'.out,hdl'.out]) rfl rfl rfl rfl (Gk rfl (Gr (.agg #[.int .u8 PC[0].toNat,.int .u8 PC[1].toNat,.int .u8 PC[2].toNat,.int .u8 PC[3].toNat,.int .u8 PC[4].toNat,.int .u8 PC[5].toNat,.int .u8 PC[6].toNat,.int .u8 PC[7].toNat]) (fun ρ y W hb hKn=>(bu rfl (aF rfl hKn) (cB (px.ext hb) 0 8) underlying79 rfl (by kernel_rfl))) rfl rfl (Gr (.pointer (some ⟨g,off+n*8,none⟩)) (fun ρ y W hb hKn=>(bB rfl (aF rfl hKn) (aF rfl hKn) hncn underlying31 psize)) rfl rfl (aB)))))))))) (fun _=>rfl) rfl ?_
           intro y W13 hbW13 _
           have hm13:=hm.below hbW13
           have hs13:=hs.below hbW13
           have px13:=px.ext hbW13
           have fx13:=fx.ext hbW13
           have ho13:=Lib.hid (ho.out.below hbW13)
           have hg13:=hg.ext hbW13
           clear hm hs px fx ho hg hbW13
           go_wp2_with (refine az rfl _ _ _ rfl g (off+n*8) _ (wz PC) rfl rfl rfl _ _ hg13 (by show off+n*8+8≤cur.size;omega) (by kernel_rfl) (bv (iL PC)) ?_)
           intro w14 hb14 hg14
           have hpo:=hgw'.out _ PC hb14
           have hm14:dz w14 b b { S10 with H:={ S10.H with dk:=⟨S10.H.dk.blocks.set n PC,S10.H.dk.queue⟩ } }:=hm13.putD hg13 hgB (by rw[hdb'.out];rfl) hg14 (l:=S10.H.dk.blocks.set n PC) (by simp) (by simpa using hpo)
           have hs14:MS w6 b S6 w14 { S10 with H:={ S10.H with dk:=⟨S10.H.dk.blocks.set n PC,S10.H.dk.queue⟩ } }:=hs13.put hg14 hkg.out (fun x hx => .inl hx)
           have px14:=px13.grown hg14 (fun e=>hpg.out (Option.some.inj e).symm)
           have fx14:=fx13.grown hg14 (fun e=>hfg.out (Option.some.inj e).symm)
           have ho14:Hid (Own w14 b 3 1 (jV ⟨x,xa,xs,xc⟩) xs.length (xs.map eH)):=Lib.hid (ak ho13.out hg13 (by decide) hg14)
           have hF14:Hid (AQ f s ct S3.H.asl fi0 (bk.set n PC) qu { S10 with H:={ S10.H with dk:=⟨S10.H.dk.blocks.set n PC,S10.H.dk.queue⟩ } }):=Lib.hid (by
            have h9:=hF10.out.1
            exact⟨h9.m,h9.asl,h9.sl,h9.sw,by show (⟨S10.H.dk.blocks.set n PC,S10.H.dk.queue⟩:nT)=_;rw[h9.dk],h9.fi,h9.ct,h9.ca,h9.sp,h9.T⟩)
           have hkf14:Hid (¬jO b { S10 with H:={ S10.H with dk:=⟨S10.H.dk.blocks.set n PC,S10.H.dk.queue⟩ } } gf0):=hkf10
           have hnp14:Hid (¬jO b { S10 with H:={ S10.H with dk:=⟨S10.H.dk.blocks.set n PC,S10.H.dk.queue⟩ } } gp):=hnp
           have hkx14:Hid (∀g,(jV ⟨x,xa,xs,xc⟩).ownBlock=some g→¬jO b { S10 with H:={ S10.H with dk:=⟨S10.H.dk.blocks.set n PC,S10.H.dk.queue⟩ } } g):=hkx10
           clear hm13 hs13 px13 fx13 ho13 hg13 hpo hb14 hg14
           generalize { S10 with H:={ S10.H with dk:=⟨S10.H.dk.blocks.set n PC,S10.H.dk.queue⟩ } }=S14 at hm14 hs14 hF14 hkf14 hnp14 hkx14
           go_wp2_with fail
           refine (dL S14 2 b b _ hm14 (by omega)).mono ?_
           rintro r w15 ⟨z,a15,c15,l15,rfl,hm15,hs15,hz,_⟩
           have fx15:=hs15.blkN fx14 hkf14.out
           have px15:=hs15.blkN px14 hnp14.out
           have ho15:Hid (Own w15 b 3 1 (jV ⟨x,xa,xs,xc⟩) xs.length (xs.map eH)):=Lib.hid (hs15.ownN ho14.out hkx14.out)
           have hs15:=hs14.trans hs15
           have hF15:Hid (AQ f s ct S3.H.asl fi0 (bk.set n PC) qu (S14.lst a15 c15 l15)):=Lib.hid (hF14.out.lst _ _ _)
           have hkf15:Hid (¬jO b (S14.lst a15 c15 l15) gf0):=hkf14
           have hnp15:Hid (¬jO b (S14.lst a15 c15 l15) gp):=hnp14
           have hkx15:Hid (∀g,(jV ⟨x,xa,xs,xc⟩).ownBlock=some g→¬jO b (S14.lst a15 c15 l15) g):=hkx14
           clear hm14 hs14 fx14 px14 ho14 hF14 hkf14 hnp14 hkx14
           generalize S14.lst a15 c15 l15=S15 at hm15 hs15 hF15 hkf15 hnp15 hkx15
           by_cases hz1:z=1
           ·subst hz1
            have hql:S15.H.dk.queue.length≤100:=by
             have h1:=hF10.out.2.1.ql
             have h2:=hF10.out.2.2
             have h3:=hl0.out
             rw[hF15.out.dk]
             rw[List.length_map] at h1
             show qu.length≤100
             omega
            have hnb:Hid (∀g,(Value.slice S15.H.dq S15.H.dk.queue.length S15.H.cdq).ownBlock=some g→g≠b∧∀t∈[(gp,gD PC,79),(gf0,kX ⟨x,xa,xs,xc⟩,67)],t.1≠g):=Lib.hid (fun g hg=>by
             obtain⟨cs,hk⟩:=jd hm15.ma.dk.q g hg
             refine⟨fun e=>jB hk hm15.blk (by decide) e,fun t ht => ?_⟩
             simp only[List.mem_cons,List.not_mem_nil,or_false] at ht
             rcases ht with rfl|rfl
             ·exact jB px15 hk (by decide)
             ·exact jB fx15 hk (by decide))
            have hks:Hid (∀t∈[(gp,gD PC,79),(gf0,kX ⟨x,xa,xs,xc⟩,67)],aD w15 t.1 t.2.1 t.2.2):=Lib.hid (fun t ht=>by
             simp only[List.mem_cons,List.not_mem_nil,or_false] at ht
             rcases ht with rfl|rfl
             ·exact px15
             ·exact fx15)
            go_upto_region 28 with (fail)
            refine dW 16 [_,_,_,_,_,_,.v (.slice S15.H.dq S15.H.dk.queue.length S15.H.cdq),_,.v (.agg (gD PC)),.v (.agg (BN ((n:Int),PC))),.r 10 ((aR fun _=>True)),.r 11 ((aR fun _=>True)),_,_,_,_] (yj S15 b b w15 [(gp,gD PC,79),(gf0,kX ⟨x,xa,xs,xc⟩,67)] 11 10 86 9 S15.H.dk.queue.length (.slice S15.H.dq S15.H.dk.queue.length S15.H.cdq) (S15.H.dk.queue.flatMap tJ) (tJ ((n:Int),PC))) dD (fun y=>Mx hm15 hks.out y) (Qk dD rfl (Qk dD rfl (Qk dD rfl (Qf dD b 1 rfl rfl (Qf dD b 6 rfl rfl (Qf dD b 7 rfl rfl (ae ?_ (Qk dD rfl (ae ?_ (ae ?_ (ae ?_ (ae ?_ (Qk dD rfl (Qf dD b 1 rfl rfl (Qf dD b 6 rfl rfl (Qf dD b 7 rfl rfl (aB) (fun _ _ _ _ hLd h=>dP (by decide) h)) (fun _ _ _ _ hLd h=>dP (by decide) h)) (fun _ _ _ _ hLd h=>dP (by decide) h)) (fun _ _ _ _ hLd h=>dP (by decide) h)))))) (fun _ _ _ _ hLd h=>dP (by decide) h))) (fun _ _ _ _ hLd h=>dP (by decide) h)) (fun _ _ _ _ hLd h=>dP (by decide) h)) (fun _ _ _ _ hLd h=>dP (by decide) h)) (fun _ _ _ _ hLd h=>dP (by decide) h)) (fun _ _ _ _ hLd h=>dP (by decide) h)) (fun _ _ _ _ hLd h=>dP (by decide) h)) (fun _=>rfl) rfl ?_
            ·intro ρ y W L hw hn hLi hLd hb hd
             refine bS dD (fun _ _ h=>dP (by decide) h) hb ?_
             have E143:=hw 143 5 rfl
             have h5:y 5=_:=hd 5 rfl
             have m1:=hb.1.1
             refine aj (.slice S15.H.dq S15.H.dk.queue.length S15.H.cdq) (ah rfl) (by simp[execOp,go_sem,E143,h5,m1.cell,fD]) rfl
            ·intro ρ y W L hw hn hLi hLd hb hd
             refine bS dD (fun _ _ h=>dP (by decide) h) hb ?_
             have E15:ρ (.tmp 15) = .pointer (some ⟨gp,0,none⟩):=(hn (.tmp 15) rfl).trans rfl
             have m3:=hb.1.2 _ List.mem_cons_self
             refine aj (.agg (gD PC)) (ah rfl) (bI rfl E15 m3 underlying79 rfl psize) rfl
            ·intro ρ y W L hw hn hLi hLd hb hd
             refine bS dD (fun _ _ h=>dP (by decide) h) hb ?_
             have E145:=hw 145 7 rfl
             have h7:y 7=_:=hd 7 rfl
             have E146:=hw 146 8 rfl
             have h8:y 8=_:=hd 8 rfl
             refine aj (.agg (BN ((n:Int),PC))) (ah rfl) (by simp[execOp,go_sem,E145,h7,E146,h8,gD,BN]) rfl
            ·intro ρ y W L hw hn hLi hLd hb hd;have E147:=hw 147 9 rfl;have h9:y 9=_:=hd 9 rfl
             refine bO (.slice (some ⟨W.heap.size,0,none⟩) 1 1) (ah rfl) ?_ (LD (W':=W.alloc (.cells (BN ((n:Int),PC)) 86)) (by decide) ((Below.refl _ _).alloc (Nat.le_refl _) _) hb ⟨Nat.le_refl _,by unfold maxLen;omega,fun e=>(by cases e),dA.new _ _ _⟩) trivial
             simp[execOp,go_sem,E147.trans h9,BN]
            ·intro ρ y W L hw hn hLi hLd hb hd;have E144:=hw 144 6 rfl;have h6:y 6=_:=hd 6 rfl;have E148:=hw 148 10 rfl;have h10:=hd 10 rfl
             have hm:=(hb.2.1 hLi).1
             obtain⟨a,e,hx1,hx2⟩:=hb.2.2.1 (hLd 10 rfl) hLi
             have hpv:Own W b 86 9 (.slice S15.H.dq S15.H.dk.queue.length S15.H.cdq) S15.H.dk.queue.length (S15.H.dk.queue.flatMap tJ):=hm.ma.dk.q
             refine fu (ah rfl) (jq _ _ _ rfl b 86 _ 9 16 underlying32 put_info rfl (by decide) (.slice S15.H.dq S15.H.dk.queue.length S15.H.cdq) S15.H.dk.queue.length _ (E144.trans h6) hpv a 1 e (tJ ((n:Int),PC)) (E148.trans hx1) hx2.nl hx2.le rfl hx2.rd (bv (NG _)) (by unfold maxLen;omega) (by omega) hm.bs) (fun v W1 h=>Lv hLi hb h.2.1 hnb.out h.1 h.2.2) (fun _ _ _=>trivial)
            intro y W16 hbW16 hRW16
            have hy10:((aR fun _=>True)).r (y 10) W16:=hRW16 10 (by decide)
            have hy11:((aR fun _=>True)).r (y 11) W16:=hRW16 11 (by decide)
            clear hRW16
            obtain⟨wq,hmq,hsq,hgq,hoq,hsnq⟩:=hbW16.2.2.2 rfl
            have hbk16:=hbW16.1.1
            have fx16:aD W16 gf0 (kX ⟨x,xa,xs,xc⟩) 67:=hbW16.1.2 _ (List.mem_cons_of_mem _ List.mem_cons_self)
            have ho16:Hid (Own W16 b 3 1 (jV ⟨x,xa,xs,xc⟩) xs.length (xs.map eH)):=Lib.hid (by
             have h1:=hsq.ownN ho15.out hkx15.out
             rcases mY hmq.ma.dk.q hgq with hb0|⟨g,cs,hk,_,hg'⟩
             ·exact h1.below hb0
             ·exact ak h1 hk (by decide) hg')
            have hsq':=Lib.hid hsq
            have hs16:=hs15.trans hsq
            obtain⟨aq,cq,hyq,_⟩:=hoq.rd
            rw[hyq] at hoq hsnq ⊢
            clear hyq hbW16 hm15 hs15 px15 fx15 ho15 hsq hks hnb
            go_wp2_with (refine az rfl _ _ _ rfl b 7 _ [.slice aq (S15.H.dk.queue.length+1) cq] rfl rfl rfl _ _ hbk16 (by show 7+1≤13;omega) (by kernel_rfl) (fun u hu=>by cases List.mem_singleton.1 hu;rfl) ?_)
            intro w17 hb17 hg17
            have hlen:(S15.H.dk.queue++[((n:Int),PC)]).length=S15.H.dk.queue.length+1:=by simp
            have hoq' : Own W16 b 86 9 (.slice aq (S15.H.dk.queue++[((n:Int),PC)]).length cq) (S15.H.dk.queue++[((n:Int),PC)]).length ((S15.H.dk.queue++[((n:Int),PC)]).flatMap tJ):=by
             rw[hlen,List.flatMap_append];simpa using hoq
            have hm17:=hmq.appQ hgq hoq' (by rw[hlen];exact hb17) hg17
            have hn17:∀x,jO b { S15 with H:={ S15.H with dq:=aq,cdq:=cq,dk:=⟨S15.H.dk.blocks,S15.H.dk.queue++[((n:Int),PC)]⟩ } } x→jO b S15 x∨oB aq=some x:=fun x hx=>by
             rcases hx with hx|hx
             ·exact .inl (.inl hx)
             ·simp only[eO,List.mem_cons,List.not_mem_nil,or_false] at hx
              rcases hx with hx|hx|hx|hx|hx|hx|hx|hx|hx<;>first|exact .inr hx.symm|exact .inl (.inr (by simp[eO,hx]))
            have hs17:=hs16.app hmq hmq.ma.dk.q (by simp[eO]) hgq hg17 hsnq hn17
            have hqN:Hid (¬jO b { S15 with H:={ S15.H with dq:=aq,cdq:=cq,dk:=⟨S15.H.dk.blocks,S15.H.dk.queue++[((n:Int),PC)]⟩ } } gf0):=Lib.hid (fun hk=>(hn17 gf0 hk).elim hkf15.out fun e=>jB (fT hoq' e).2.choose_spec fx16 (by decide) rfl)
            have fx17:=fx16.grown hg17 (fun e=>hkf15.out (.inl (Option.some.inj e).symm))
            have ho17:Hid (Own w17 b 3 1 (jV ⟨x,xa,xs,xc⟩) xs.length (xs.map eH)):=Lib.hid (ak ho16.out hbk16 (by decide) hg17)
            have hF17:Hid (AQ f s ct S3.H.asl fi0 (bk.set n PC) (qu++[((n:Int),PC)]) { S15 with H:={ S15.H with dq:=aq,cdq:=cq,dk:=⟨S15.H.dk.blocks,S15.H.dk.queue++[((n:Int),PC)]⟩ } }∧Fb ct (bk.set n PC) (qu++[((n:Int),PC)]) (fi0.map PF.fi) (xs++[(n:Int)])):=Lib.hid (by
             have h9:=hF15.out
             exact⟨⟨h9.m,h9.asl,h9.sl,h9.sw,by show (⟨S15.H.dk.blocks,S15.H.dk.queue++[((n:Int),PC)]⟩:nT)=_;rw[h9.dk],h9.fi,h9.ct,h9.ca,h9.sp,h9.T⟩,hF10.out.2.1.wait hnn.out.1 hnn.out.2 PC⟩)
            clear hmq hgq hoq hsnq hbk16 fx16 ho16 hs16 hb17 hlen hoq' hg17 hn17
            go_wp2
            go_meet
            case rel=>exact⟨(n:Int),_,_,_,rfl,hm17,hs17,hqN,hF17,fx17,ho17⟩
           ·have hF17:Hid (AQ f s ct S3.H.asl fi0 (bk.set n PC) qu S15∧Fb ct (bk.set n PC) qu (fi0.map PF.fi) (xs++[(n:Int)])):=Lib.hid ⟨hF15.out,hF10.out.2.1.some hnn.out.1 hnn.out.2 PC⟩
            go_wp2
            go_meet
            case rel=>exact⟨(n:Int),S15,_,_,rfl,hm15,hs15,hkf15,hF17,fx15,ho15⟩
       case rest=>
       obtain⟨v,S,bk,qu,rfl,hm,hs,hkf,hF,fx,ho⟩:=hcut
       clear hm9 hs9 hF9 fx9 ho9 hkf9 hkx9
       have hcf:=fx.cell
       unfold kX at hcf
       have hF':=Lib.hid hF.out.2
       have hxl:xs.length≤100:=by
        have h1:=hF10l.out
        omega
       have hlw:=Lib.hid hxl
       go_wp2_with (at_builtin;go_must (refine qF rfl _ _ 29 rfl b 3 (.int .i64 0) 1 8 underlying29 int_info rfl (by decide) (jV ⟨x,xa,xs,xc⟩) xs.length (xs.map eH) rfl (ho.out.alloc _) (some ⟨wc.heap.size,0,none⟩) 1 1 [eH v] rfl (fun h=>(by cases h)) (Nat.le_refl _) rfl (dA.new _ #[eH v] _) (by simp[eH,Value.oneCell']) (by unfold maxLen;omega) (by omega) (bQ hm.bs _) ?_))
       intro v2 w2 own2 hg2 hsn2
       have hal:=(Below.refl wc.heap.size wc).alloc (Nat.le_refl _) (.cells #[eH v] 3)
       have hm1:=hm.below hal
       have hs1:=hs.below hal
       have fx1:=fx.ext hal
       have ho1:Own (wc.alloc (.cells #[eH v] 3)) b 3 1 (.slice xa xs.length xc) xs.length (xs.map eH):=ho.out.below hal
       obtain⟨a2,c2,hv2,_⟩:=own2.rd
       rw[hv2] at own2 hsn2 ⊢
       have hge2:Hid (∀g,oB a2=some g→w6.heap.size≤g∧oB S3.H.asl≠some g∧∀p∈fi0,oB p.a≠some g):=Lib.hid (fun g hg=>by
        rcases hsn2 with e1|e1
        ·unfold jV at e1
         rw[jv,jv] at e1
         exact hap.out g (by rw[←e1];exact hg)
        ·have h1:=e1 g (by rw[jv];exact hg)
         refine⟨Nat.le_trans hs1.size h1,fun e => ?_,fun p hp e => ?_⟩
         ·exact absurd h1 (Nat.not_le.2 (fT hm1.ma.sl (by rw[hF.out.1.asl];exact e)).2.choose_spec.lt)
         ·rw[←hF.out.1.fi] at hp
          obtain⟨k,hk,rfl⟩:=List.mem_iff_getElem.1 hp
          exact absurd h1 (Nat.not_le.2 (fT (hm1.ma.st.each k _ (List.getElem?_eq_getElem hk)) e).2.choose_spec.lt))
       have hm2:dz w2 b b S:=by
        rcases mY ho1 hg2 with hb0|⟨g,cs,hk,hga,hg'⟩
        ·exact hm1.below hb0
        ·exact hm1.locI hk (hm1.kb_int hk (by rw[hF.out.1.asl];exact (hap.out g hga).2.1)) (by rw[hF.out.1.fi];exact (hap.out g hga).2.2) (fT ho1 hga).1 hg'
       have hs2:MS w6 b S6 w2 S:=by
        rcases mY ho1 hg2 with hb0|⟨g,cs,hk,hga,hg'⟩
        ·exact hs1.below hb0
        ·exact hs1.loc hg' (hap.out g hga).1
       have fx2:aD w2 gf0 (kX ⟨x,xa,xs,xc⟩) 67:=by
        rcases mY ho1 hg2 with hb0|⟨g,cs,hk,hga,hg'⟩
        ·exact fx1.ext hb0
        ·exact aW fx1 hk (by decide) hg'
       clear hcf hm hs fx hm1 hs1 fx1 ho1 hg2 hsn2 hal ho hv2
       go_wp2_with (refine az rfl _ _ _ rfl gf0 1 _ [.slice a2 (xs.length+1) c2] rfl rfl rfl _ _ fx2 (by show 1+1≤2;omega) (by kernel_rfl) (fun u hu=>by cases List.mem_singleton.1 hu;rfl) ?_)
       intro w3 hb3 hg3
       have hxl1:(xs++[v]).length=xs.length+1:=by simp
       have fx3:aD w3 gf0 (kX ⟨x,a2,xs++[v],c2⟩) 67:=by
        have e:kX ⟨x,a2,xs++[v],c2⟩=bq (kX ⟨x,xa,xs,xc⟩) 1 [.slice a2 (xs.length+1) c2]:=by
         unfold kX
         dsimp only
         rw[hxl1]
         kernel_rfl
        rw[e];exact hb3
       have hm3:=hm2.locT fx2 (by decide) hkf.out hgB hg3
       have hs3:=hs2.loc hg3 hg6.out
       have ho3:Hid (Own w3 b 3 1 (jV ⟨x,a2,xs++[v],c2⟩) (xs++[v]).length ((xs++[v]).map eH)∧∀g,oB a2=some g→w6.heap.size≤g∧oB S3.H.asl≠some g∧∀p∈fi0,oB p.a≠some g):=Lib.hid ⟨by
        have h1:=ak own2 fx2 (by decide) hg3
        unfold jV
        dsimp only
        rw[hxl1,List.map_append]
        exact h1,hge2.out⟩
       have hF3:Hid (AQ f s ct S3.H.asl fi0 bk qu S∧Fb ct bk qu (fi0.map PF.fi) (xs++[v])∧(xs++[v]).length=i+1):=Lib.hid ⟨hF.out.1,hF.out.2,by rw[hxl1,hF8l.out]⟩
       clear hm2 hs2 fx2 own2 hb3 hg3 hxl1 hxl
       go_wp2
       go_roundw
       case rel=>exact⟨i+1,S,bk,qu,xs++[v],a2,c2,by omega,by go_num,hm3,hs3,hkf,hF3,fx3,ho3⟩
       case measure=>simp[intOf];omega
      ·have hii:¬(i:Int)<(C:Int):=by omega
       have hiC' : i=C:=by omega
       subst hiC'
       have hfl5:S.H.fi.length≤5:=by rw[hI.out.1.fi];have:=hl0.out;omega
       have hkaf:∀g,(Value.slice S.H.ai S.H.fi.length S.H.ci).ownBlock=some g→jO b S g:=fun g hg => .inr (by rw[jv] at hg;simp[eO,hg])
       have hnb:Hid (∀g,(Value.slice S.H.ai S.H.fi.length S.H.ci).ownBlock=some g→g≠b∧∀t∈[(gf0,kX ⟨x,xa,xs,xc⟩,67)],t.1≠g):=Lib.hid (fun g hg=>by
        obtain⟨cs,hk⟩:=jd hm.ma.st.own g hg
        refine⟨fun e=>jB hk hm.blk (by decide) e,fun t ht => ?_⟩
        rw[List.mem_singleton.1 ht]
        intro e
        exact hkf'.out (by rw[show gf0=g from e];exact hkaf g hg))
       have hks:Hid (∀t∈[(gf0,kX ⟨x,xa,xs,xc⟩,67)],aD wr t.1 t.2.1 t.2.2):=Lib.hid (fun t ht=>by rw[List.mem_singleton.1 ht];exact fx)
       go_upto_region 31 with (fail)
       refine dW 14 [_,_,_,_,_,_,.v (.slice S.H.ai S.H.fi.length S.H.ci),.v (.agg (kX ⟨x,xa,xs,xc⟩)),.r 8 ((aR fun _=>True)),.r 9 ((aR fun _=>True)),_,_,_,_] (yj S b b wr [(gf0,kX ⟨x,xa,xs,xc⟩,67)] 9 8 67 2 S.H.fi.length (.slice S.H.ai S.H.fi.length S.H.ci) (S.H.fi.flatMap lU) (lU ⟨x,xa,xs,xc⟩)) dD (fun y=>Mx hm hks.out y) (Qk dD rfl (Qk dD rfl (Qk dD rfl (Qf dD b 1 rfl rfl (Qf dD b 8 rfl rfl (Qf dD b 8 rfl rfl (ae ?_ (ae ?_ (ae ?_ (ae ?_ (Qk dD rfl (Qf dD b 1 rfl rfl (Qf dD b 8 rfl rfl (Qf dD b 8 rfl rfl (aB) (fun _ _ _ _ hLd h=>dP (by decide) h)) (fun _ _ _ _ hLd h=>dP (by decide) h)) (fun _ _ _ _ hLd h=>dP (by decide) h)) (fun _ _ _ _ hLd h=>dP (by decide) h)))))) (fun _ _ _ _ hLd h=>dP (by decide) h)) (fun _ _ _ _ hLd h=>dP (by decide) h)) (fun _ _ _ _ hLd h=>dP (by decide) h)) (fun _ _ _ _ hLd h=>dP (by decide) h)) (fun _ _ _ _ hLd h=>dP (by decide) h)) (fun _ _ _ _ hLd h=>dP (by decide) h)) (fun _=>rfl) rfl ?_
       ·intro ρ y W L hw hn hLi hLd hb hd
        refine bS dD (fun _ _ h=>dP (by decide) h) hb ?_
        have E166:=hw 166 5 rfl
        have h5:y 5=_:=hd 5 rfl
        have m1:=hb.1.1
        refine aj (.slice S.H.ai S.H.fi.length S.H.ci) (ah rfl) (by simp[execOp,go_sem,E166,h5,m1.cell,fD]) rfl
       ·intro ρ y W L hw hn hLi hLd hb hd
        refine bS dD (fun _ _ h=>dP (by decide) h) hb ?_
        have E11:ρ (.tmp 11) = .pointer (some ⟨gf0,0,none⟩):=(hn (.tmp 11) rfl).trans rfl
        have m3:=hb.1.2 _ List.mem_cons_self
        refine aj (.agg (kX ⟨x,xa,xs,xc⟩)) (ah rfl) (bI rfl E11 m3 underlying67 rfl file_size) rfl
       ·intro ρ y W L hw hn hLi hLd hb hd;have E168:=hw 168 7 rfl;have h7:y 7=_:=hd 7 rfl
        refine bO (.slice (some ⟨W.heap.size,0,none⟩) 1 1) (ah rfl) ?_ (LD (W':=W.alloc (.cells (kX ⟨x,xa,xs,xc⟩) 67)) (by decide) ((Below.refl _ _).alloc (Nat.le_refl _) _) hb ⟨Nat.le_refl _,by unfold maxLen;omega,fun e=>(by cases e),dA.new _ _ _⟩) trivial
        simp[execOp,go_sem,E168.trans h7,kX]
       ·intro ρ y W L hw hn hLi hLd hb hd;have E167:=hw 167 6 rfl;have h6:y 6=_:=hd 6 rfl;have E169:=hw 169 8 rfl;have h8:=hd 8 rfl
        have hm:=(hb.2.1 hLi).1
        obtain⟨a,e,hx1,hx2⟩:=hb.2.2.1 (hLd 8 rfl) hLi
        have hpv:Own W b 67 2 (.slice S.H.ai S.H.fi.length S.H.ci) S.H.fi.length (S.H.fi.flatMap lU):=hm.ma.st.own
        refine fu (ah rfl) (jq _ _ _ rfl b 67 _ 2 32 underlying35 file_info rfl (by decide) (.slice S.H.ai S.H.fi.length S.H.ci) S.H.fi.length _ (E167.trans h6) hpv a 1 e (lU ⟨x,xa,xs,xc⟩) (E169.trans hx1) hx2.nl hx2.le rfl hx2.rd (bv (lC _)) (by unfold maxLen;omega) (by omega) hm.bs) (fun v W1 h=>Lv hLi hb h.2.1 hnb.out h.1 h.2.2) (fun _ _ _=>trivial)
       intro y W8 hbW8 hRW8
       have hy8:((aR fun _=>True)).r (y 8) W8:=hRW8 8 (by decide)
       have hy9:((aR fun _=>True)).r (y 9) W8:=hRW8 9 (by decide)
       clear hRW8
       obtain⟨wq,hmq,hsq,hgq,hoq,hsnq⟩:=hbW8.2.2.2 rfl
       have hbk8:=hbW8.1.1
       have hoxq:=hsq.ownN ho.out.1 (fun g hg=>by
        obtain⟨cs,hk⟩:=jd ho.out.1 g hg
        refine hm.kb_int hk ?_
        rw[hI.out.1.asl]
        exact (ho.out.2 g (by unfold jV at hg;rw[jv] at hg;exact hg)).2.1)
       have hs8:=hs.trans hsq
       obtain⟨aq,cq,hyq,_⟩:=hoq.rd
       rw[hyq] at hoq hsnq ⊢
       clear hyq hbW8 hm hs fx hsq hks hnb hkaf
       go_wp2_with (refine az rfl _ _ _ rfl b 8 _ [.slice aq (S.H.fi.length+1) cq] rfl rfl rfl _ _ hbk8 (by show 8+1≤13;omega) (by kernel_rfl) (fun u hu=>by cases List.mem_singleton.1 hu;rfl) ?_)
       intro w17 hb17 hg17
       have hlen:(S.H.fi++[(⟨x,xa,xs,xc⟩:PF)]).length=S.H.fi.length+1:=by simp
       have hm17:dz w17 b b { S with H:={ S.H with ai:=aq,ci:=cq,fi:=S.H.fi++[(⟨x,xa,xs,xc⟩:PF)] } }:=hmq.appFi (p:=⟨x,xa,xs,xc⟩) hoxq (fun k p hp g hg hg'=>by
         unfold jV at hg hg'
         rw[jv] at hg hg'
         exact (ho.out.2 g hg').2.2 p (by rw[←hI.out.1.fi];exact List.mem_of_getElem? hp) hg) (fun g hg=>by rw[hI.out.1.asl];exact (ho.out.2 g hg).2.1) hgq (by rw[hlen];exact hoq) (by rw[hlen];exact hb17) hg17
       have hs17:MS w6 b S6 w17 { S with H:={ S.H with ai:=aq,ci:=cq,fi:=S.H.fi++[(⟨x,xa,xs,xc⟩:PF)] } }:=hs8.app hmq hmq.ma.st.own (by simp[eO]) hgq hg17 hsnq (fun x hx=>by
        rcases hx with hx|hx
        ·exact .inl (.inl hx)
        ·simp only[eO,List.mem_cons,List.not_mem_nil,or_false] at hx
         rcases hx with hx|hx|hx|hx|hx|hx|hx|hx|hx<;>first|exact .inr hx.symm|exact .inl (.inr (by simp[eO,hx])))
       have hs17:=hs6.trans hs17
       have hI17:Hid (AQ f s ct S3.H.asl (S.H.fi++[(⟨x,xa,xs,xc⟩:PF)]) bk qu { S with H:={ S.H with ai:=aq,ci:=cq,fi:=S.H.fi++[(⟨x,xa,xs,xc⟩:PF)] } }∧Fb ct bk qu ((S.H.fi++[(⟨x,xa,xs,xc⟩:PF)]).map PF.fi) []∧(S.H.fi++[(⟨x,xa,xs,xc⟩:PF)]).length=q+1∧(q+1=0→bk=List.replicate ct zPg∧qu=[]∧(l=[]→S.l=[]))):=Lib.hid (by
        have h9:=hI.out.1
        refine⟨⟨h9.m,h9.asl,h9.sl,h9.sw,h9.dk,rfl,h9.ct,h9.ca,h9.sp,h9.T⟩,?_,by rw[hlen,h9.fi,hl0q.out],fun e=>absurd e (by omega)⟩
        rw[List.map_append,h9.fi]
        exact hI.out.2.1.file (s:=x) (by omega) (by omega) (by rw[hI.out.2.2,hC'.out]))
       clear hmq hgq hoq hsnq hbk8 hoxq hs8 hb17 hlen hg17
       go_wp2
       go_roundw
       case rel=>exact⟨q+1,_,bk,qu,by omega,by go_num,hm17,hs17,hI17⟩
       case measure=>simp[intOf];omega
    ·have hqi:¬(q:Int)<(N:Int):=by omega
     have hbd:Hid (Bd S.H.ma S.T∧FV S∧S.H.sp.length=0∧S.H.m.fs.length=f∧S.H.dk.blocks.length=ct∧(l=[]→S.l=[]∧S.H.ma=vw f s ct (List.replicate ct zPg) [] []∧S.T=[])):=Lib.hid (by
      obtain⟨h1,h2,h3,h4⟩:=hI.out
      refine⟨by rw[h1.ma,h1.T];exact h2.bd (by rw[List.length_map];omega) hf40 hs60,fun p hp=>(by rw[h1.sp] at hp;cases hp),by rw[h1.sp];rfl,by rw[h1.m];exact List.length_replicate,by rw[h1.dk];exact h2.cl.1,fun e => ?_⟩
      have hN0:=(hl5.out e).1
      have hq0:q=0:=by omega
      obtain⟨k1,k2,k3⟩:=h4 hq0
      refine⟨k3 e,?_,h1.T⟩
      have hf0:fi0=[]:=List.length_eq_zero_iff.1 (by omega)
      rw[h1.ma,k1,k2,hf0];rfl)
     clear hI
     go_wp2_with fail
     refine (dL S 2 b b _ hm (by omega)).mono ?_
     rintro r w6 ⟨z,a6,c6,l6,rfl,hm6,hs6,hz,hz0⟩
     have hs6:=hs.trans hs6
     have hzw:IntKind.i64.wrap (1+z)=1+z:=IntWalk.i64_in _ (by omega)
     obtain⟨M,hM⟩:∃M:Nat,1+z=(M:Int):=⟨(1+z).toNat,by omega⟩
     have hM2:1≤M∧M≤2:=by omega
     have hbd6:Hid (Bd (S.lst a6 c6 l6).H.ma (S.lst a6 c6 l6).T∧FV (S.lst a6 c6 l6)∧(S.lst a6 c6 l6).H.sp.length=0∧(S.lst a6 c6 l6).H.m.fs.length=f∧(S.lst a6 c6 l6).H.dk.blocks.length=ct∧(l=[]→(S.lst a6 c6 l6).l=[]∧(S.lst a6 c6 l6).H.ma=vw f s ct (List.replicate ct zPg) [] []∧(S.lst a6 c6 l6).T=[])):=Lib.hid
      ⟨hbd.out.1,hbd.out.2.1,hbd.out.2.2.1,hbd.out.2.2.2.1,hbd.out.2.2.2.2.1,fun e=>⟨(hz0 (hbd.out.2.2.2.2.2 e).1).2,(hbd.out.2.2.2.2.2 e).2⟩⟩
     have hM1:Hid (l=[]→M=1):=Lib.hid (fun e=>by have:=(hz0 (hbd.out.2.2.2.2.2 e).1).1;omega)
     rw[hM] at hzw
     clear hm hs hbd hz hz0
     generalize S.lst a6 c6 l6=S6 at hm6 hs6 hbd6
     go_upto_region 34 with (fail)
     clear hM hzw
     go_loopw [179] (fun k wr => ∃(p:Nat) (S:MW),p≤M∧k = .int .i64 p∧dz wr b b S∧MS w4 b S3 wr S∧Hid (Bd S.H.ma S.T∧FV S∧S.H.sp.length=p∧S.H.m.fs.length=f∧S.H.dk.blocks.length=ct∧(l=[]→S.l=[]∧((p=0→S.H.ma=vw f s ct (List.replicate ct zPg) [] []∧S.T=[])∧(p=1→S.H.ma = { vw f s ct (List.replicate ct zPg) [] [] with sp:=[⟨true,[],zTb⟩] }∧S.T=[List.replicate 64 zEn]))))) (fun k _=>M-(intOf k).toNat)
     case atStart=>exact⟨0,S6,Nat.zero_le _,rfl,hm6,hs6,Lib.hid ⟨hbd6.out.1,hbd6.out.2.1,hbd6.out.2.2.1,hbd6.out.2.2.2.1,hbd6.out.2.2.2.2.1,fun e=>⟨(hbd6.out.2.2.2.2.2 e).1,fun _=>(hbd6.out.2.2.2.2.2 e).2,fun h=>(by cases h)⟩⟩⟩
     case round=>
      clear hm6 hs6 hbd6
      obtain⟨p,S,hp,rfl,hm,hs,hI⟩:=hrel
      by_cases hpM:p<M
      ·have hpi:(p:Int)<(M:Int):=by omega
       have hmoreR:∀(S' : MW),More S S'→(l=[]→p=0→S'.l=[]∧S'.H.ma = { S.H.ma with sp:=S.H.ma.sp++[⟨true,[],zTb⟩] }∧S'.T=S.T++[List.replicate 64 zEn])→Bd S'.H.ma S'.T∧FV S'∧S'.H.sp.length=p+1∧S'.H.m.fs.length=f∧S'.H.dk.blocks.length=ct∧(l=[]→S'.l=[]∧((p+1=0→S'.H.ma=vw f s ct (List.replicate ct zPg) [] []∧S'.T=[])∧(p+1=1→S'.H.ma = { vw f s ct (List.replicate ct zPg) [] [] with sp:=[⟨true,[],zTb⟩] }∧S'.T=[List.replicate 64 zEn]))):=fun S' hMo hn=>by
        obtain⟨h1,h2,h3,h4,h5,h6⟩:=hI.out
        refine⟨hMo.bd,hMo.fm,by rw[hMo.sp,h3],by rw[hMo.fs,h4],by rw[hMo.dk,h5],fun e => ?_⟩
        have hp0:p=0:=by have:=hM1.out e;omega
        obtain⟨k1,k2,k3⟩:=hn e hp0
        obtain⟨q1,q2⟩:=(h6 e).2.1 hp0
        refine⟨k1,fun h=>absurd h (by omega),fun _=>⟨by rw[k2,q1];rfl,by rw[k3,q2];rfl⟩⟩
       have hmoreR':=Lib.hid hmoreR
       clear hmoreR
       by_cases hp1:p=1
       ·subst hp1
        go_wp2_with fail
        refine (dL S 2 b b _ hm (by omega)).mono ?_
        rintro r w7 ⟨z2,a7,c7,l7,rfl,hm7,hs7,hz2,_⟩
        have hs7:=hs.trans hs7
        clear hm hs
        by_cases hz1:z2=1
        ·subst hz1
         go_wp2_with fail
         refine (Jt (S.lst a7 c7 l7) b b _ hm7 hI.out.1 hI.out.2.1 hI.out.2.2.1).mono ?_
         rintro r w8 ⟨S8,rfl,hm8,hs8,hMo⟩
         have hs8:=hs7.trans hs8
         have hI8:=Lib.hid (hmoreR'.out S8 ⟨hMo.bd,hMo.fm,hMo.fi,hMo.ct,hMo.dk,hMo.sp,hMo.fs⟩ (fun _ h=>absurd h (by decide)))
         clear hm7 hs7 hMo hI
         go_wp2
         go_roundw
         case rel=>exact⟨2,S8,by omega,by go_num,hm8,hs8,hI8⟩
         case measure=>simp[intOf];omega
        ·have hzb:(z2==1)=false:=by simpa using hz1
         go_wp2_with fail
         refine (yA (S.lst a7 c7 l7) b b _ hm7 hI.out.1 hI.out.2.1 (by have:=hI.out.2.2.1;show S.H.sp.length<4;omega)).mono ?_
         rintro r w8 ⟨S8,rfl,hm8,hs8,hMo,_⟩
         have hs8:=hs7.trans hs8
         have hI8:=Lib.hid (hmoreR'.out S8 ⟨hMo.bd,hMo.fm,hMo.fi,hMo.ct,hMo.dk,hMo.sp,hMo.fs⟩ (fun _ h=>absurd h (by decide)))
         clear hm7 hs7 hMo hI
         go_wp2
         go_roundw
         case rel=>exact⟨2,S8,by omega,by go_num,hm8,hs8,hI8⟩
         case measure=>simp[intOf];omega
       ·have hp0:p=0:=by omega
        subst hp0
        go_wp2_with fail
        refine (yA S b b _ hm hI.out.1 hI.out.2.1 (by have:=hI.out.2.2.1;omega)).mono ?_
        rintro r w8 ⟨S8,rfl,hm8,hs8,hMo,hnil⟩
        have hs8:=hs.trans hs8
        have hI8:=Lib.hid (hmoreR'.out S8 hMo (fun e _=>hnil (hI.out.2.2.2.2.2 e).1))
        clear hm hs hMo hI hnil
        go_wp2
        go_roundw
        case rel=>exact⟨0+1,S8,by omega,by go_num,hm8,hs8,Lib.hid ⟨hI8.out.1,hI8.out.2.1,hI8.out.2.2.1,hI8.out.2.2.2.1,hI8.out.2.2.2.2.1,fun e=>⟨(hI8.out.2.2.2.2.2 e).1,(hI8.out.2.2.2.2.2 e).2.1,fun _=>(hI8.out.2.2.2.2.2 e).2.2 (by first | trivial | rfl)⟩⟩⟩
        case measure=>simp[intOf];omega
      ·have hpi:¬(p:Int)<(M:Int):=by omega
       have hpe:M=p:=by omega
       subst hpe
       have hT6:Hid (Bd S.H.ma S.T∧S.T.length=M∧S.H.ma.sp.length=M):=Lib.hid (by
        have h1:=hI.out.2.2.1
        have h2:S.H.ma.sp.length=S.H.sp.length:=List.length_map _
        exact⟨hI.out.1,by rw[hI.out.1.ok.len];omega,by omega⟩)
       have hI0:Hid (S.H.ma=tabs S.H.ma S.T 0∧S.T=S.T∧S.H.sp.length=M∧FV S∧S.H.m.fs.length=f∧S.H.dk.blocks.length=ct∧(l=[]→S.l=[])):=Lib.hid ⟨rfl,rfl,hI.out.2.2.1,hI.out.2.1,hI.out.2.2.2.1,hI.out.2.2.2.2.1,fun e=>(hI.out.2.2.2.2.2 e).1⟩
       have hnew:Hid (l=[]→dw S.H.ma S.T=lI f s ct):=Lib.hid (fun e=>by
        obtain⟨k1,k2⟩:=(hI.out.2.2.2.2.2 e).2.2 (hM1.out e)
        rw[k1,k2];exact Mf hf40 hs60 hc80)
       obtain⟨m5,hm5⟩:∃m,S.H.ma=m:=⟨_,rfl⟩
       obtain⟨T5,hT5⟩:∃T,S.T=T:=⟨_,rfl⟩
       have hI1:Hid (S.H.ma=tabs m5 T5 0∧S.T=T5∧S.H.sp.length=M∧FV S∧S.H.m.fs.length=f∧S.H.dk.blocks.length=ct∧(l=[]→S.l=[])):=Lib.hid (by rw[←hm5,←hT5];exact hI0.out)
       rw[hm5,hT5] at hT6 hnew
       have hspl:S.H.sp.length=M:=hI.out.2.2.1
       clear hI hI0 hm5 hT5
       have hc:=hm.blk.cell
       unfold fD at hc
       rw[hspl] at hc
       clear hspl
       go_upto_region 41 with (fail)
       clear hc
       go_loopw [200] (fun k wr => ∃(q:Nat) (S:MW),q≤M∧k = .int .i64 q∧dz wr b b S∧MS w4 b S3 wr S∧Hid (S.H.ma=tabs m5 T5 q∧S.T=T5∧S.H.sp.length=M∧FV S∧S.H.m.fs.length=f∧S.H.dk.blocks.length=ct∧(l=[]→S.l=[]))) (fun k _=>M-(intOf k).toNat)
       case atStart=>exact⟨0,S,Nat.zero_le _,rfl,hm,hs,hI1⟩
       case round=>
        clear hm hs hI1
        obtain⟨q,S,hq,rfl,hm,hs,hI⟩:=hrel
        by_cases hqM:q<M
        ·have hqi:(q:Int)<(M:Int):=by omega
         obtain⟨P,hP⟩:∃P,S.H.sp[q]?=some P:=⟨_,List.getElem?_eq_getElem (by rw[hI.out.2.2.1];exact hqM)⟩
         obtain⟨g,off,cur0,hap,_,_,_,_⟩:=hm.setTb hP
         have hTl:S.T.length=M:=by rw[hI.out.2.1];exact hT6.out.2.1
         obtain⟨gt,ot,ct',curt,hvt,_,hgt,hgts,hgtc,_⟩:=hm.tt.put sH (by decide) q (by omega)
         have hab:S.ab=some ⟨gt,ot,none⟩:=(Value.slice.inj hvt).1
         have h64:(dE T5 q).length=64:=hT6.out.1.ok.l64 (by rw[hT6.out.2.2];exact hqM)
         have hTq:S.T[q]'(by omega)=dE T5 q:=by rw[←dz.lst_len (by omega),hI.out.2.1]
         have hrdT:∀W,Below wr.heap.size wr W→dA W (some ⟨gt,ot+q*192,none⟩) (MZ (dE T5 q)).toList:=fun W hb j u hj=>by
          refine⟨gt,ot+q*192,rfl,?_⟩
          have e1:=hgtc j u (by rw[hTq,PV h64];exact hj)
          rw[hgt.cell] at e1
          rw[(hgt.ext hb).cell];exact e1
         have hsp':=Lib.hid hI.out.2.2.1
         have hTl':=Lib.hid hTl
         have hap':=Lib.hid hap
         have hab':=Lib.hid hab
         have h64':=Lib.hid h64
         have hsz64:(MZ (dE T5 q)).toList.length=192:=by rw[Array.length_toList,LM,h64]
         have hsz':=Lib.hid hsz64
         have hP':=Lib.hid hP
         have hrdT':=Lib.hid hrdT
         clear hvt hgtc hTq hTl hap hab h64 hsz64 hP hrdT hgt hgts
         go_upto_region 43 with (fail)
         refine aG 16 [_,_,_,_,_,_,_,_,_,_,_,_,_,.r 13 ((Cn b (dZ (dE T5 q)))),_,_] (Gk rfl (Gk rfl (Gf b 1 rfl rfl (Gf b 11 rfl rfl (Gl hm.blk (V:=.slice (some ⟨g,off,none⟩) M S.H.cp) (by simp[fD,hap'.out,hsp'.out]) rfl rfl rfl rfl (Gk rfl (Gk rfl (Gk rfl (Gf b 12 rfl rfl (Gl hm.blk (V:=.slice (some ⟨gt,ot,none⟩) M S.cb) (by simp[fD,hab'.out,hTl'.out]) rfl rfl rfl rfl (Gk rfl (Gr (.pointer (some ⟨gt,ot+q*192,none⟩)) (fun ρ y W hb hKn=>(bB rfl (aF rfl hKn) (aF rfl hKn) hqM underlying75 arr64_size)) rfl rfl (Gr (.agg (MZ (dE T5 q))) (fun ρ y W hb hKn=>(bu rfl (aF rfl hKn) (hrdT'.out W hb) underlying90 rfl (arr64_size.trans (congrArg some hsz'.out.symm)))) rfl rfl (ae ?_ (Gr (.pointer (some ⟨g,off+q*10,none⟩)) (fun ρ y W hb hKn=>(bB rfl (aF rfl hKn) (aF rfl hKn) hqM underlying39 space_size)) rfl rfl (Gf g (off+q*10+2) rfl rfl (aB))))))))))))))))) (fun _=>rfl) rfl ?_
         ·intro ρ y W hw hn hb hd;have E215:=hw 215 12 rfl;have h12:y 12=_:=hd 12 rfl
          have EF:∀f,ρ (.func f) = .func (.func f) #[] #[]:=fun f=>hn (.func f) trivial
          refine aM _ _ (ah rfl) (aN rfl (EF _) func36 (by kernel_rfl) (by kernel_rfl) (by simp only[List.map_toArray,List.map_cons,List.map_nil,E215,h12,EF];rfl)) ?_
          refine (DT (dE T5 q) W h64'.out).mono ?_
          rintro e w1 ⟨ca,rfl,hO,hb1⟩
          exact⟨_,rfl,hb1,⟨_,rfl,hO.mono (hm.below hb).bs⟩⟩
         intro y W9 hbW9 hRW9
         have hy13:=hRW9 13 (by decide)
         clear hRW9
         obtain⟨cs,hy13e,hTO⟩:∃cs,y 13 = .agg cs∧mD W9 b cs (dZ (dE T5 q)):=hy13
         obtain⟨v,rfl⟩:=KF hTO.sz
         rw[hy13e]
         have hm9:=hm.below hbW9
         have hs9:=hs.below hbW9
         clear hm hs hbW9 hy13e
         obtain⟨g2,off2,cur,hap2,hgB2,hblk2,hfit2,hset2⟩:=hm9.setTb hP'.out
         rw[hap'.out] at hap2
         obtain⟨rfl,rfl⟩:g=g2∧off=off2:=by
          have:=Option.some.inj hap2
          exact⟨congrArg Addr.block this,congrArg Addr.off this⟩
         have hkb9:jO b S g:=.inr (by simp[eO,hap'.out,oB,Value.ownBlock])
         clear hap2
         go_wp2_with (refine az rfl _ _ _ rfl g (off+q*10+2) _ (mo v).toList rfl rfl rfl _ _ hblk2 (by show off+q*10+2+8≤cur.size;exact hfit2) (by kernel_rfl) (KU hTO.rd) ?_)
         intro w10 hb10 hg10
         have hm10:=hset2 w10 v _ hTO hb10 hg10
         have hs10:MS w4 b S3 w10 { S with H:={ S.H with sp:=S.H.sp.set q { P with ts:=v,tb:=dZ (dE T5 q) } } }:=hs9.put hg10 hkb9 (fun x hx => .inl hx)
         have hI10:Hid (({ S with H:={ S.H with sp:=S.H.sp.set q { P with ts:=v,tb:=dZ (dE T5 q) } } }:MW).H.ma=tabs m5 T5 (q+1)∧S.T=T5∧(S.H.sp.set q { P with ts:=v,tb:=dZ (dE T5 q) }).length=M∧FV { S with H:={ S.H with sp:=S.H.sp.set q { P with ts:=v,tb:=dZ (dE T5 q) } } }∧S.H.m.fs.length=f∧S.H.dk.blocks.length=ct∧(l=[]→S.l=[])):=Lib.hid (by
          obtain⟨q1,q2,q3,q4,q5⟩:=hI.out
          refine⟨?_,q2,by rw[List.length_set];exact q3,fun p hp n x hx => ?_,q5⟩
          ·show MH.ma { S.H with sp:=S.H.sp.set q { P with ts:=v,tb:=dZ (dE T5 q) } }=_
           rw[Gp hP'.out,q1];rfl
          ·rcases List.mem_or_eq_of_mem_set hp with hp|rfl
           ·exact q4 p hp n x hx
           ·exact q4 P (List.mem_of_getElem? hP'.out) n x hx)
         clear hm9 hs9 hblk2 hfit2 hset2 hb10 hg10 hTO hI hkb9
         go_wp2
         go_roundw
         case rel=>exact⟨q+1,_,by omega,by go_num,hm10,hs10,hI10⟩
         case measure=>simp[intOf];omega
        ·have hqi:¬(q:Int)<(M:Int):=by omega
         have hIm:Hid (S.H.ma=dw m5 T5):=Lib.hid (by
          have e:q=m5.sp.length:=by rw[hT6.out.2.2];omega
          rw[hI.out.1,e];exact Md)
         have hI7:Hid (Rt S.H.ma∧Co S.H.ma∧FV S∧S.H.m.fs.length=f∧S.H.dk.blocks.length=ct∧(1≤S.H.sp.length∧S.H.sp.length≤2)∧(l=[]→S.H.ma=lI f s ct∧S.l=[])):=Lib.hid (by
          obtain⟨q1,q2,q3,q4,q5,q6,q7⟩:=hI.out
          exact⟨by rw[hIm.out];exact hT6.out.1.rt,by rw[hIm.out];exact hT6.out.1.co,q4,q5,q6,by omega,fun e=>⟨by rw[hIm.out];exact hnew.out e,q7 e⟩⟩)
         clear hI hIm
         by_cases hf0:0<f
         ·have hfi:(0:Int)<(f:Int):=by omega
          go_wp2_with fail
          refine (dL S (f:Int) b b _ hm (by omega)).mono ?_
          rintro r w11 ⟨x,a11,c11,l11,rfl,hm11,hs11,hx,hx0⟩
          have hs11:=hs.trans hs11
          clear hm hs
          go_wp2_with (refine az rfl _ _ _ rfl b 2 _ [.int .i64 x] rfl rfl rfl _ _ hm11.blk (by show 2+1≤13;omega) (by kernel_rfl) (fun u hu=>by cases List.mem_singleton.1 hu;rfl) ?_)
          intro w12 hb12 hg12
          have hm:=hm11.setH hb12 hg12
          have hs:MS w4 b S3 w12 { (S.lst a11 c11 l11) with H:={ (S.lst a11 c11 l11).H with m:=⟨(S.lst a11 c11 l11).H.m.fs,x⟩ } }:=hs11.put hg12 (.inl rfl) (fun x hx => .inl hx)
          have hI:Hid (Rt ({ (S.lst a11 c11 l11) with H:={ (S.lst a11 c11 l11).H with m:=⟨(S.lst a11 c11 l11).H.m.fs,x⟩ } }:MW).H.ma∧Co ({ (S.lst a11 c11 l11) with H:={ (S.lst a11 c11 l11).H with m:=⟨(S.lst a11 c11 l11).H.m.fs,x⟩ } }:MW).H.ma∧FV ({ (S.lst a11 c11 l11) with H:={ (S.lst a11 c11 l11).H with m:=⟨(S.lst a11 c11 l11).H.m.fs,x⟩ } }:MW)∧({ (S.lst a11 c11 l11) with H:={ (S.lst a11 c11 l11).H with m:=⟨(S.lst a11 c11 l11).H.m.fs,x⟩ } }:MW).H.m.fs.length=f∧({ (S.lst a11 c11 l11) with H:={ (S.lst a11 c11 l11).H with m:=⟨(S.lst a11 c11 l11).H.m.fs,x⟩ } }:MW).H.dk.blocks.length=ct∧(1≤({ (S.lst a11 c11 l11) with H:={ (S.lst a11 c11 l11).H with m:=⟨(S.lst a11 c11 l11).H.m.fs,x⟩ } }:MW).H.sp.length∧({ (S.lst a11 c11 l11) with H:={ (S.lst a11 c11 l11).H with m:=⟨(S.lst a11 c11 l11).H.m.fs,x⟩ } }:MW).H.sp.length≤2)∧(l=[]→({ (S.lst a11 c11 l11) with H:={ (S.lst a11 c11 l11).H with m:=⟨(S.lst a11 c11 l11).H.m.fs,x⟩ } }:MW).H.ma=lI f s ct)):=Lib.hid (by
           obtain⟨q1,q2,q3,q4,q5,q6,q7⟩:=hI7.out
           have hwm:=(dB _).1 q1.pt.fr
           have hh:=Nz q1 q2 (x:=x) ((dB _).2 ⟨hwm.1,hwm.2.1,hx.1,by
            rcases hx.2.2 with h|h
            ·exact .inr (by show x<(S.H.m.fs.length:Int);omega)
            ·exact .inl h⟩)
           refine⟨hh.1,hh.2,q3,q4,q5,q6,fun e => ?_⟩
           obtain⟨k1,k2⟩:=q7 e
           have hx00:x=0:=(hx0 k2).1
           subst hx00
           have k3:S.H.m.hand=0:=by
            have:=congrArg (fun m:Ma=>m.m.hand) k1
            have e2:(lI f s ct).m.hand=0:=by
             unfold lI rY
             rw[if_pos ⟨⟨by omega,by omega⟩,⟨by omega,by omega⟩,by omega,by omega⟩,if_pos (by omega)]
            exact this.trans e2
           rw[←k1]
           show MH.ma { S.H with m:=⟨S.H.m.fs,0⟩ }=MH.ma S.H
           have e3:(⟨S.H.m.fs,0⟩:Mem)=S.H.m:=by rw[←k3]
           rw[e3])
          clear hm11 hs11 hb12 hg12 hI7 hx hx0
          generalize { (S.lst a11 c11 l11) with H:={ (S.lst a11 c11 l11).H with m:=⟨(S.lst a11 c11 l11).H.m.fs,x⟩ } }=S13 at hm hs hI
          ·skip
           have bz:aD w12 w.heap.size (dC noH) 41:=hs.blkN bx4'.out hnb4.out
           have hB9:=Lib.hid (Nat.le_of_eq hbb.out)
           go_wp2_with (first | (refine ay _ _ rfl b 1 rfl rfl _ hm.rdM _ underlying41 rfl machine_size ?_) | (refine ax rfl _ _ _ rfl w.heap.size (dC S13.H) rfl rfl _ _ bz rfl machine_size (fe _) ?_))
           intro wE bE gE
           have hE:Hid (oL wE w.heap.size S13.H∧Below w.heap.size w wE):=Lib.hid ⟨(hm.ma.keep bz (by decide) gE).mono (by have:=hB9.out;omega),(zH hbe4.out (hto.out _ _ hs) (by have:=hB9.out;omega) (Nat.le_refl _)).grown gE (Nat.le_trans (Nat.le_trans (by omega) hszl4) hs.size) (fun k hk=>by cases hk;exact Nat.le_refl _)⟩
           clear hm hs bz
           go_wp2
           refine bodyPost_ret (v:=.agg (dC S13.H)) (dF results10 _ _ w.heap.size _ _ _ rfl bE underlying41 rfl machine_size) rfl ?_
           obtain⟨q1,q2,q3,q4,q5,q6,q7⟩:=hI.out
           exact⟨S13.H,rfl,hE.out.1,hE.out.2,q1,q2,q3,by rw[hcl.out.1];exact q4,by rw[hcl.out.2.2];exact q5,q6,fun e=>by rw[hcl.out.1,hcl.out.2.1,hcl.out.2.2];exact q7 e⟩
         ·have hfi:¬(0:Int)<(f:Int):=by omega
          have hI:Hid (Rt S.H.ma∧Co S.H.ma∧FV S∧S.H.m.fs.length=f∧S.H.dk.blocks.length=ct∧(1≤S.H.sp.length∧S.H.sp.length≤2)∧(l=[]→S.H.ma=lI f s ct)):=Lib.hid ⟨hI7.out.1,hI7.out.2.1,hI7.out.2.2.1,hI7.out.2.2.2.1,hI7.out.2.2.2.2.1,hI7.out.2.2.2.2.2.1,fun e=>(hI7.out.2.2.2.2.2.2 e).1⟩
          clear hI7
          ·skip
           have bz:aD wr w.heap.size (dC noH) 41:=hs.blkN bx4'.out hnb4.out
           have hB9:=Lib.hid (Nat.le_of_eq hbb.out)
           go_wp2_with (first | (refine ay _ _ rfl b 1 rfl rfl _ hm.rdM _ underlying41 rfl machine_size ?_) | (refine ax rfl _ _ _ rfl w.heap.size (dC S.H) rfl rfl _ _ bz rfl machine_size (fe _) ?_))
           intro wE bE gE
           have hE:Hid (oL wE w.heap.size S.H∧Below w.heap.size w wE):=Lib.hid ⟨(hm.ma.keep bz (by decide) gE).mono (by have:=hB9.out;omega),(zH hbe4.out (hto.out _ _ hs) (by have:=hB9.out;omega) (Nat.le_refl _)).grown gE (Nat.le_trans (Nat.le_trans (by omega) hszl4) hs.size) (fun k hk=>by cases hk;exact Nat.le_refl _)⟩
           clear hm hs bz
           go_wp2
           refine bodyPost_ret (v:=.agg (dC S.H)) (dF results10 _ _ w.heap.size _ _ _ rfl bE underlying41 rfl machine_size) rfl ?_
           obtain⟨q1,q2,q3,q4,q5,q6,q7⟩:=hI.out
           exact⟨S.H,rfl,hE.out.1,hE.out.2,q1,q2,q3,by rw[hcl.out.1];exact q4,by rw[hcl.out.2.2];exact q5,q6,fun e=>by rw[hcl.out.1,hcl.out.2.1,hcl.out.2.2];exact q7 e⟩
theorem vQ {α:Type} (q:α→Bool) {l l' : List α} (hl:l'.length=l.length) (h:∀i (h1:i<l.length) (h2:i<l'.length),q l'[i]=q l[i]):l'.countP q=l.countP q:=by
 have e:l'.map q=l.map q:=by
  apply List.ext_getElem
  ·simpa using hl
  ·intro i h1 h2
   simp only[List.getElem_map]
   exact h i (by simpa using h2) (by simpa using h1)
 have e2:=congrArg (fun x=>x.countP id) e
 simpa[List.countP_map] using e2
theorem qh (h:i<m.m.fs.length):aO m i=m.m.fs[i]:=by unfold aO;rw[List.getD_eq_getElem?_getD,List.getElem?_eq_getElem h];rfl
theorem new2:lI (zh 2 40) (zh 2 60) (zh 2 80)=⟨rY 2,wJ 2,lW 2,lW 2,⟨[],2⟩,[],[⟨true,[],zTb⟩]⟩:=by
 have e:zh 2 40=2∧zh 2 60=2∧zh 2 80=2:=by decide
 rw[e.1,e.2.1,e.2.2]
 rfl
theorem IZ (h:aS s=0) (hl:jb s≠0):0≤dH s:=by
 by_cases hf:dH s<0
 ·exact absurd (Ev h hf) hl
 ·omega
def fH (l:List Fr):Nat:=l.countP fun f=>f.d
def vg (m:Ma) (f:Nat):Bool:=(aO m f).d&&fO m f
def jC (m:Ma):Option Nat:=(List.range m.m.fs.length).find? (vg m)
theorem Ci (h:jC m=some f):f<m.m.fs.length∧(aO m f).d=true∧fO m f=true:=by
 have h1:=List.mem_range.1 (List.mem_of_find?_eq_some h)
 have h2:=List.find?_some h
 unfold vg at h2
 rw[Bool.and_eq_true] at h2
 exact⟨h1,h2.1,h2.2⟩
theorem Ce (h:jC m=none) (f:Nat) (hf:f<m.m.fs.length) (hd:(aO m f).d=true):fO m f=false:=by
 have:=List.find?_eq_none.1 h f (List.mem_range.2 hf)
 unfold vg at this
 rw[hd,Bool.true_and] at this
 simpa using this
theorem ny {α:Type} (q:α→Bool):∀(l:List α) (i:Nat) (h:i<l.length) (x:α),q l[i]=true→q x=false→(l.set i x).countP q+1=l.countP q
 | a::l,0,_,x,h1,h2=>by
  simp only[List.getElem_cons_zero] at h1
  rw[List.set_cons_zero,List.countP_cons,List.countP_cons,h1,h2];simp
 | a::l,i+1,h,x,h1,h2=>by
  rw[List.set_cons_succ,List.countP_cons,List.countP_cons]
  have:=ny q l i (by simpa using h) x (by simpa using h1) h2
  omega
theorem zg (hf:f<m.m.fs.length) (hd:(aO m f).d=true) (h:Cleaned m m1 f):fH m1.m.fs+1=fH m.m.fs:=by
 rw[h.fs]
 unfold setFr fH
 exact ny _ _ f hf _ (by rw[qh hf] at hd;exact hd) rfl
theorem sj (hR:Rt m) (hC:Co m) (h:jC m=some f):∃m1,gN ⟨m,0⟩ f=⟨m1,0⟩∧Cleaned m m1 f∧fH m1.m.fs+1=fH m.m.fs:=by
 obtain⟨h1,h2,h3⟩:=Ci h
 obtain⟨m1,e,hc⟩:=zx (k:=⟨m,0⟩) hR hC h1 (hC.anon f h1 h2) h3
 exact⟨m1,e,hc,zg h1 h2 hc⟩
theorem Eh (hR:Rt m) (hC:Co m) (h:jC m=none):fH m.m.fs=0∨jb m.st=0:=by
 by_cases hl:jb m.st=0
 ·exact .inr hl
 ·left
  unfold fH
  rw[List.countP_eq_zero]
  intro a ha hd
  obtain⟨i,hi,rfl⟩:=List.mem_iff_getElem.1 ha
  have hd' : (aO m i).d=true:=by rw[qh hi];exact hd
  have hcb:=Ce h i hi hd'
  have h0:=hC.anon i hi hd'
  obtain⟨c,hcm,hck⟩:=hR.fc i hi h0
  have hin:=hR.ca.file c hcm
  have hfr:=hR.ca.fr c hcm
  rw[hck,Int.toNat_natCast] at hfr
  rw[←hfr.2.1,←hfr.2.2] at hin
  have hbe:=Iw hR.pt.st hin (.inr (IZ hR.pt.st hl))
  unfold fO at hcb
  rw[hbe] at hcb
  simp at hcb
theorem Kg {α:Type} (q:α→Bool) {l l' : List α} (hl:l'.length=l.length) (i:Nat) (hi:i<l.length) (h:∀j (h1:j<l.length) (h2:j<l'.length),j≠i→q l'[j]=q l[j]) (h1:q l[i]=false) (h2:q (l'[i]'(by omega))=true):l'.countP q=l.countP q+1:=by
 have e1:l'.countP q=(l.set i (l'[i]'(by omega))).countP q:=by
  refine vQ q (by simp[hl]) fun j h3 h4 => ?_
  by_cases e:j=i
  ·subst e;simp
  ·rw[List.getElem_set_ne (by omega)]
   exact h j (by simpa using h3) h4 e
 have e2:=ny q (l.set i (l'[i]'(by omega))) i (by simpa using hi) l[i] (by simpa using h2) h1
 rw[List.set_set,List.set_getElem_self] at e2
 omega
theorem EY {o:Option Nat} (h:yn m m' o):Bu m'.m.fs=Bu m.m.fs+if o=none then 0 else 1:=by
 have heq:∀i (h1:i<m.m.fs.length) (h2:i<m'.m.fs.length),o≠some i→decide (m'.m.fs[i].r=0)=decide (m.m.fs[i].r=0):=fun i h1 h2 ho=>by
  have e1:=(h.fr i ho).2.1
  rw[qh h1,qh h2] at e1
  rw[e1]
 cases o with
 | none=>
  rw[if_pos rfl]
  exact vQ _ h.len fun i h1 h2=>heq i h1 h2 (by simp)
 | some f=>
  rw[if_neg (by simp)]
  obtain⟨k1,k2,k3⟩:=h.free f rfl
  have hf' : f<m'.m.fs.length:=by rw[h.len];exact k1
  refine Kg _ h.len f k1 (fun j h1 h2 hj=>heq j h1 h2 (fun e=>hj (Option.some.inj e).symm)) ?_ ?_
  ·rw[qh k1] at k3
   exact decide_eq_false k3
  ·rw[qh hf'] at k2
   rw[k2];rfl
theorem CZ (hR:Rt m) (hC:Co m):(dG ⟨m,0⟩).1.e=0∧Rt (dG ⟨m,0⟩).1.m∧Co (dG ⟨m,0⟩).1.m∧GH m (dG ⟨m,0⟩).1.m∧Bu (dG ⟨m,0⟩).1.m.m.fs=Bu m.m.fs+if (dG ⟨m,0⟩).2=true then 1 else 0:=by
 obtain⟨he,o,hF,ho⟩:=yw (k:=⟨m,0⟩) hR hC
 refine⟨he,hF.rt,hF.co,hF.vis,?_⟩
 rw[EY hF]
 cases o with
 | none=>rw[if_pos rfl,if_neg (fun e=>(ho.1 e) rfl)]
 | some f=>rw[if_neg (by simp),if_pos (ho.2 (by simp))]
theorem wu {l:List Cc} {o:Nat} (h:∀j u,(l.flatMap je)[j]?=some u→cur[o+j]?=some u):∀j u,((l.take k).flatMap je)[j]?=some u→cur[o+j]?=some u:=by
 intro j u hj
 refine h j u ?_
 conv=>lhs;rw[←List.take_append_drop k l,List.flatMap_append]
 rw[List.getElem?_append_left (by have:=(List.getElem?_eq_some_iff.1 hj).1;exact this)]
 exact hj
theorem CL {l:List Cc} (hk:k≤l.length) {o:Nat} (h:∀j u,(l.flatMap je)[j]?=some u→cur[o+j]?=some u):∀j u,((l.drop k).flatMap je)[j]?=some u→cur[o+k*3+j]?=some u:=by
 intro j u hj
 rw[Nat.add_assoc]
 refine h _ u ?_
 conv=>lhs;rw[←List.take_append_drop k l,List.flatMap_append]
 have hl1:((l.take k).flatMap je).length=k*3:=by rw[iN,List.length_take,Nat.min_eq_left hk]
 rw[List.getElem?_append_right (by omega),hl1,Nat.add_sub_cancel_left]
 exact hj
theorem Dp {a:Act} {K:Act→World→Prop} {E:Prop}
 (hg:o.guard=none) (d s:Operand) (t t' : TypeId) (hop:o.op=Op.call { callee:=.builtin .append,args:=#[d,s],argTypes:=#[t,t'] }) (vd vs v:Value)
 (hd:a.eval d=vd) (hx:a.eval s=vs) (hr:(Builtin.append_ #[t,t'] o.type #[vd,vs]).run P w = .ok v w') (hK:K (a.put o.dst v) w') :
  if Region.wanted o (yielded ops a.tmps)=true then Oper.wp P o a w K Q else E:=by
 have hw:Region.wanted o (yielded ops a.tmps)=true:=by simp[Region.wanted,hg]
 rw[if_pos hw]
 unfold Oper.wp
 simp[execOp,hop,resolve,invoke,builtin,hd,hx,hr,Result.andThen]
 exact hK
theorem yU (l:List Cc) (k:Nat):(l.eraseIdx k).flatMap je=(l.take k).flatMap je++(l.drop (k+1)).flatMap je:=by rw[List.eraseIdx_eq_take_drop_succ,List.flatMap_append]
theorem Dc (l:List Cc) (k:Nat) (hk:k<l.length) (a:Option Addr) (c B:Nat) (w:World) (hown:Own w B 106 3 (.slice a l.length c) l.length (l.flatMap je)) (hl:l.length≤1000) :
  Calls Tryz.prog 127 #[.slice a l.length c,.int .i64 k,.int .i64 ((k:Int)+1)] w fun e w'=>e = .returned (.slice a (l.length-1) c)∧Own w' B 106 3 (.slice a (l.length-1) c) (l.length-1) ((l.eraseIdx k).flatMap je)∧w.grownBy w' (oB a):=by
 rcases hown with ⟨hlen,⟨_,hz⟩|⟨b,off,c',cur,hv,hBb,hb,hnc,hmx,hsz,hcell⟩⟩
 ·omega
 cases hv
 have hmx':=hmx
 unfold maxLen at hmx'
 have hdl:((l.drop (k+1)).flatMap je).length=(l.length-(k+1))*3:=by rw[iN,List.length_drop]
 have hdc:=CL (k:=k+1) (by omega) hcell
 have hap:∀ad cc ty,(∀j u,((l.drop (k+1)).flatMap je)[j]?=some u→w.cell? (Addr.add ad j)=some u)→(Builtin.append_ #[38,38] ty #[.slice (some ⟨b,off,none⟩) k c,.slice (some ad) (l.length-(k+1)) cc]).run Tryz.prog w.drew = .ok (.slice (some ⟨b,off,none⟩) (k+(l.length-(k+1))) c) (w.drew.setCells b (off+k*3) ((l.drop (k+1)).flatMap je)):=by
  intro ad cc ty hn
  obtain⟨i0,hi0,hz0,hzs,hzb⟩:=info_parts cached_info
  have:=run_append_room_cells (P:=Tryz.prog) w.drew 38 ty 106 i0 underlying38 hi0 b off k c ad (l.length-(k+1)) cc ((l.drop (k+1)).flatMap je) (by rw[hzs,hdl]) hn (fun u hu=>xg _ u hu) (by omega) (fun j hj=>by rw[hzs,hb.drew.cell];simp[show off+k*3+j<cur.size by omega]) (fun j hj=>hb.drew.free _)
  rw[hzs] at this
  exact this
 have hN0:k+1=l.length→((l.drop (k+1)).flatMap je)=[]:=fun h=>by rw[List.drop_eq_nil_of_le (by omega)];rfl
 obtain⟨N,hN⟩:∃N,N=(l.drop (k+1)).flatMap je:=⟨_,rfl⟩
 rw[←hN] at hdl hdc hap hN0
 have hN':=Lib.hid hN
 clear hN
 have hw1:IntKind.i64.wrap ((k:Int)+1)=(k:Int)+1:=IntWalk.i64_in _ (by omega)
 have hk1:(k:Int)+1≤(l.length:Int):=by omega
 have hk2:(k:Int)≤(k:Int)+1:=by omega
 have hkne:¬((k:Int)=(k:Int)+1):=by omega
 have hk0:(0:Int)≤(k:Int)+1:=by omega
 have htn:((k:Int)+1).toNat=k+1:=by omega
 have hlc:(l.length:Int)≤(c:Int):=by omega
 have hkc:(k:Int)≤(c:Int):=by omega
 go_enter func127,ntmps127
 go_wp2_with fail
 by_cases hck:c=k+1
 ·subst hck
  have hN0':=Lib.hid (hN0 (by omega))
  clear hN0
  go_region_law (refine Dp rfl _ _ 38 38 rfl (.slice (some ⟨b,off,none⟩) k (k+1)) (.slice (some ⟨b,off,none⟩) (l.length-(k+1)) 0) _ (by simp[Act.eval,Act.put]) (by simp[Act.eval,Act.put];omega) (hap _ _ _ (fun j u hj=>by rw[hN0'.out] at hj;simp at hj)) ?_)
  have hb1:=(hb.drew).setCells N (off+k*3)
  have hgr1:w.grownBy (w.drew.setCells b (off+k*3) N) (some b):=pW (a:=w) (b:=w.drew) (row:=some b) ⟨rfl,rfl,rfl,Nat.le_refl _,fun _ _ _=>rfl⟩ (aA w.drew _ _ _)
  have hkl:k+(l.length-(k+1))=k:=by omega
  try rw[hkl]
  have hn1' : Hid (k=l.length-1):=Lib.hid (by omega)
  have e4:(l.length:Int)≤(k:Int)+1:=by omega
  generalize w.drew.setCells b (off+k*3) N=W1 at *
  have hcl0:=fun ty=>ou (P:=Tryz.prog) W1 38 106 ty _ 3 24 underlying38 cached_info (by decide) (by decide) b (off+k*3) 1 (1) (by omega) _ _ hb1 (by rw[size_putAt];show off+k*3+1*3≤cur.size;omega)
  have e1:l.length-k=1:=by omega
  have e2:((k:Nat):Int)≤(l.length:Int):=by omega
  have e3:¬((k+1)=k):=by omega
  go_wp2
  go_ret
  have hb2:=hb1.setCells (Builtin.zeroCells (Value.agg #[.int .i64 0,.int .i64 0,.int .i64 0]).cells 1).toList (off+k*3)
  have hgr2:=pW hgr1 (aA W1 b (off+k*3) (Builtin.zeroCells (Value.agg #[.int .i64 0,.int .i64 0,.int .i64 0]).cells 1).toList)
  refine⟨congrArg (fun n=>Ending.returned (Value.slice (some ⟨b,off,none⟩) n (k+1))) (show k=l.length-1 by omega),⟨by rw[iN,List.length_eraseIdx_of_lt hk],.inr ⟨b,off,(k+1),_,rfl,hBb,hb2,by omega,hmx,by rw[size_putAt,size_putAt];exact hsz,?_⟩⟩,hgr2⟩
  intro j u hj
  have hjl:j<(l.length-1)*3:=by have:=(List.getElem?_eq_some_iff.1 hj).1;rw[iN,List.length_eraseIdx_of_lt hk] at this;exact this
  rw[putAt_out _ _ _ _ (.inl (by omega))]
  rw[yU,←hN'.out] at hj
  have htl:((l.take k).flatMap je).length=k*3:=by rw[iN,List.length_take,Nat.min_eq_left (by omega)]
  by_cases c1:j<k*3
  ·rw[List.getElem?_append_left (by omega)] at hj
   rw[putAt_out _ _ _ _ (.inl (by omega))]
   exact wu hcell j u hj
  ·rw[List.getElem?_append_right (by omega),htl] at hj
   have:=putAt_in _ cur (off+k*3) (j-k*3) u (by omega) hj
   rwa [show off+k*3+(j-k*3)=off+j by omega] at this
 ·go_region_law (refine Dp rfl _ _ 38 38 rfl (.slice (some ⟨b,off,none⟩) k c) (.slice (some ⟨b,off+(k+1)*3,none⟩) (l.length-(k+1)) (c-(k+1))) _ (by simp[Act.eval,Act.put]) (by simp[Act.eval,Act.put]) (hap _ _ _ (fun j u hj=>by rw[Addr.add_lit,hb.cell];exact hdc j u hj)) ?_)
  have hb1:=(hb.drew).setCells N (off+k*3)
  have hgr1:w.grownBy (w.drew.setCells b (off+k*3) N) (some b):=pW (a:=w) (b:=w.drew) (row:=some b) ⟨rfl,rfl,rfl,Nat.le_refl _,fun _ _ _=>rfl⟩ (aA w.drew _ _ _)
  have hkl:k+(l.length-(k+1))=(l.length-1):=by omega
  try rw[hkl]
  have hn1' : Hid ((l.length-1)=l.length-1):=Lib.hid (by omega)
  have e4:(l.length:Int)≤(c:Int):=by omega
  generalize w.drew.setCells b (off+k*3) N=W1 at *
  have hcl0:=fun ty=>ou (P:=Tryz.prog) W1 38 106 ty _ 3 24 underlying38 cached_info (by decide) (by decide) b (off+(l.length-1)*3) 1 (c-(l.length-1)) (by omega) _ _ hb1 (by rw[size_putAt];show off+(l.length-1)*3+1*3≤cur.size;omega)
  have e1:l.length-(l.length-1)=1:=by omega
  have e2:(((l.length-1):Nat):Int)≤(l.length:Int):=by omega
  have e3:¬(c=(l.length-1)):=by omega
  go_wp2
  go_ret
  have hb2:=hb1.setCells (Builtin.zeroCells (Value.agg #[.int .i64 0,.int .i64 0,.int .i64 0]).cells 1).toList (off+(l.length-1)*3)
  have hgr2:=pW hgr1 (aA W1 b (off+(l.length-1)*3) (Builtin.zeroCells (Value.agg #[.int .i64 0,.int .i64 0,.int .i64 0]).cells 1).toList)
  refine⟨congrArg (fun n=>Ending.returned (Value.slice (some ⟨b,off,none⟩) n c)) (show (l.length-1)=l.length-1 by omega),⟨by rw[iN,List.length_eraseIdx_of_lt hk],.inr ⟨b,off,c,_,rfl,hBb,hb2,by omega,hmx,by rw[size_putAt,size_putAt];exact hsz,?_⟩⟩,hgr2⟩
  intro j u hj
  have hjl:j<(l.length-1)*3:=by have:=(List.getElem?_eq_some_iff.1 hj).1;rw[iN,List.length_eraseIdx_of_lt hk] at this;exact this
  rw[putAt_out _ _ _ _ (.inl (by omega))]
  rw[yU,←hN'.out] at hj
  have htl:((l.take k).flatMap je).length=k*3:=by rw[iN,List.length_take,Nat.min_eq_left (by omega)]
  by_cases c1:j<k*3
  ·rw[List.getElem?_append_left (by omega)] at hj
   rw[putAt_out _ _ _ _ (.inl (by omega))]
   exact wu hcell j u hj
  ·rw[List.getElem?_append_right (by omega),htl] at hj
   have:=putAt_in _ cur (off+k*3) (j-k*3) u (by omega) hj
   rwa [show off+k*3+(j-k*3)=off+j by omega] at this
theorem NW (c:Cc) (g g2:Nat) (f i:Int) (w:World) (hg:aD w g #[.int .i64 f] 3) (hg2:aD w g2 #[.int .i64 i] 3) :
  Calls Tryz.prog 142 #[.agg (wL c),.pointer (some ⟨g,0,none⟩),.pointer (some ⟨g2,0,none⟩)] w fun r w'=>r = .returned (.bool (vv f i c))∧Below w.heap.size w w':=by
 go_enter func142,ntmps142
 go_upto_region 1 with (fail)
 refine gB (fun W=>Code.wp _ _ _ _ W) fun W0 hb0 hx0 hs0 => ?_
 clear hs0
 have hgx:=(hg.ext hb0).cell 0
 have hgy:=(hg2.ext hb0).cell 0
 have hcx:=hx0.cell
 unfold wL at hcx
 by_cases h1:f<c.f
 ·go_wp2
  go_ret
  exact⟨bG (by unfold vv;simp[h1]),hb0⟩
 ·by_cases h2:c.f=f
  ·have e1:(c.f==f)=true:=by simpa using h2
   by_cases h3:i≤c.i
   ·go_wp2
    go_ret
    exact⟨bG (by unfold vv;simp[h2,h3]),hb0⟩
   ·go_wp2
    go_ret
    exact⟨bG (by unfold vv;simp[h1,h2,h3]),hb0⟩
  ·have e1:(c.f==f)=false:=by simpa using h2
   go_wp2
   go_ret
   exact⟨bG (by unfold vv;simp[h1,h2]),hb0⟩
theorem Hm (l:List Cc) (a:Option Addr) (c:Nat) (w:World) (hrd:dA w a (l.flatMap je)) (hl:l.length≤9223372036854775807) (g g2:Nat) (ff ii:Int) (hg:aD w g #[.int .i64 ff] 3) (hg2:aD w g2 #[.int .i64 ii] 3) :
  Calls Tryz.prog 113 #[.slice a l.length c,.func (.func 142) #[] #[.pointer (some ⟨g,0,none⟩),.pointer (some ⟨g2,0,none⟩)]] w fun e w'=>e = .returned (.int .i64 (idx (vv ff ii) l))∧Below w.heap.size w w':=by
 go_enter func113,ntmps113
 go_wp2
 go_loopw [8] (fun i wr => ∃k:Nat,k≤l.length∧i = .int .i64 k∧Below w.heap.size w wr∧∀i (h:i<l.length),i<k→(vv ff ii) l[i]=false) (fun i _=>l.length-(intOf i).toNat)
 case atStart=>exact⟨0,Nat.zero_le _,rfl,Below.refl _ _,fun i _ h=>absurd h (Nat.not_lt_zero _)⟩
 case round=>
  obtain⟨k,hk,rfl,hbr,hp0⟩:=hrel
  have hp:=Lib.hid hp0
  clear hp0
  by_cases hlt:k<l.length
  ·obtain⟨b,off,rfl,hel⟩:=rD (hrd.below hbr) k hlt
   go_wp2_with (refine ay _ _ rfl b (off+k*3) rfl rfl _ hel _ underlying106 rfl cached_size ?_)
   refine (NW l[k] g g2 ff ii _ (hg.ext hbr) (hg2.ext hbr)).mono ?_
   rintro e w2 ⟨rfl,hb2⟩
   have hbel2:=ag hbr hb2
   clear hb2
   cases hpk:(vv ff ii) l[k]
   ·have hpk':=Lib.hid hpk
    clear hpk
    go_wp2
    go_roundw
    case rel=>exact⟨k+1,by omega,by go_num,hbel2,kV hp.out hlt hpk'.out⟩
    case measure=>simp[intOf];omega
   ·have hfin:=Lib.hid (nW (vv ff ii) l k hlt hp.out hpk)
    clear hpk
    go_wp2
    go_ret
    exact⟨aV hfin.out.symm,hbel2⟩
  ·have hfin:=Lib.hid (jQ (vv ff ii) l fun i h=>hp.out i h (by omega))
   go_wp2
   go_ret
   exact⟨aV hfin.out.symm,hbr⟩
theorem Og {l:List Cc} {f i:Int}:(idx (vv f i) l<0∧rR l f i=l.length∧JV l f i=false)∨(∃k,∃hk:k<l.length,idx (vv f i) l=k∧rR l f i=k∧JV l f i=(decide (l[k].f=f)&&decide (l[k].i=i))):=by
 unfold idx JV rR
 cases h:l.findIdx? (vv f i) with
 | none=>exact .inl ⟨by decide,rfl,by simp⟩
 | some k=>
  obtain⟨hk,_,_⟩:=List.findIdx?_eq_some_iff_getElem.1 h
  exact .inr ⟨k,hk,rfl,rfl,by simp[List.getElem?_eq_getElem hk]⟩
theorem Nl (H:MH) (e f i:Int) (B b:Nat) (w:World) (h:jf w B b H e) :
  Calls Tryz.prog 126 #[.pointer (some ⟨b,0,none⟩),.int .i64 f,.int .i64 i] w fun r w'=>r = .returned (.tuple #[.int .i64 (rR H.ca f i:Int),.bool (JV H.ca f i)])∧Below w.heap.size w w':=by
 go_enter func126,ntmps126
 go_upto_region 1 with (fail)
 refine oJ (fun W=>Code.wp _ _ _ _ W) fun W0 hb0 hx0 hy0 hs0 => ?_
 clear hs0
 have k0:=h.below hb0
 have hc:=k0.blk.cell
 unfold pF at hc
 have hm:=k0.ma.rd.ca
 have hmx:=hm.mx
 have hle:=hm.le
 unfold maxLen at hmx
 clear h
 go_wp2_with fail
 refine (Hm H.ca H.ac H.cc _ hm.rd (by omega) _ _ f i hx0 hy0).mono ?_
 rintro r w1 ⟨rfl,hb1⟩
 have hbel:=ag hb0 hb1
 have k1:=k0.below hb1
 have hx1:=(hx0.ext hb1).cell 0
 have hy1:=(hy0.ext hb1).cell 0
 have hc1:=k1.blk.cell
 unfold pF at hc1
 have hrd1:=hm.rd.below hb1
 clear hc hx0 hy0 hb0 hb1 k0 hm
 rcases Og (l:=H.ca) (f:=f) (i:=i) with ⟨h1,h2,h3⟩|⟨k,hk,h1,h2,h3⟩
 ·have hq:=Lib.hid (And.intro h2 h3)
  clear h2 h3
  generalize idx (vv f i) H.ca=z at *
  go_wp2
  go_ret2
  rw[hq.out.1,hq.out.2]
  exact⟨rfl,hbel⟩
 ·have hq:=Lib.hid (And.intro h2 h3)
  rw[h1]
  clear h1 h2 h3
  obtain⟨g,off,c,hac,hck,c0,c1,c2⟩:=Ox hrd1 k hk
  rw[hac] at hc1
  have hce:H.ca[k]=c:=by rw[List.getElem?_eq_getElem hk] at hck;exact Option.some.inj hck
  rw[hce] at hq
  have hki:(k:Int)<(H.ca.length:Int):=by omega
  clear hck hrd1 hac hce
  go_wp2_with fail
  by_cases e1:c.f=f
  ·have b1:(c.f==f)=true:=by simpa using e1
   by_cases e2:c.i=i
   ·have b2:(c.i==i)=true:=by simpa using e2
    go_quiet (fail)
    go_wp2
    go_ret2
    rw[hq.out.1,hq.out.2]
    refine⟨by simp[e1,e2],below_drewN hbel _⟩
   ·have b2:(c.i==i)=false:=by simpa using e2
    go_quiet (fail)
    go_wp2
    go_ret2
    rw[hq.out.1,hq.out.2]
    refine⟨by simp[e1,e2],below_drewN hbel _⟩
  ·have b1:(c.f==f)=false:=by simpa using e1
   go_quiet (fail)
   go_wp2
   go_ret2
   rw[hq.out.1,hq.out.2]
   refine⟨by simp[e1],below_drewN hbel _⟩
def uC (u:Nat × Int):Array Value:=#[.int .i64 u.1,.int .i64 u.2]
def uL (u:Nat × Int):List Value:=(uC u).toList
theorem Pd (u:Nat × Int):(uL u).length=2:=rfl
theorem us_info:(Tryz.prog.info? 193).map (fun i=>(i.zero,i.size,i.bytes))=some (some (.agg #[.int .i64 0,.int .i64 0]),2,16):=by kernel_rfl
theorem us_size:(Tryz.prog.info? 193).map (·.size)=some 2:=by kernel_rfl
theorem OO (u:Nat × Int):∀x∈uL u,x.oneCell' = true:=by
 intro x hx
 simp only[uL,uC,List.mem_cons,List.not_mem_nil,or_false] at hx
 rcases hx with rfl|rfl<;>rfl
def nD (m:Ma) (f:Int) (P:Nat):List (Nat × Int):=(List.range P).flatMap fun p=>(kW (dR m p).tb 1 f).map fun n=>(p,n)
theorem zI (m:Ma) (f:Int) (P:Nat):nD m f (P+1)=nD m f P++(kW (dR m P).tb 1 f).map fun n=>(P,n):=by
 unfold nD;rw[List.range_succ,List.flatMap_append];simp
theorem FT (t:Tb) (kd i:Int):(kW t kd i).length≤64:=by
 unfold kW aI
 exact Nat.le_trans (List.length_filter_le _ _) (mU t 64)
theorem wQ (m:Ma) (f:Int):∀P,(nD m f P).length≤P*64
 | 0=>by simp[nD]
 | P+1=>by
  have h1:=wQ m f P
  have h2:=FT (dR m P).tb 1 f
  rw[zI,List.length_append,List.length_map]
  omega
theorem EW (H:MH) (e f:Int) (B b:Nat) (w:World) (h:jf w B b H e) (hz:H.sp.length≤1000) :
  Calls Tryz.prog 125 #[.pointer (some ⟨b,0,none⟩),.int .i64 f] w fun r w' => ∃v,r = .returned v∧Own w' w.heap.size 193 2 v (aU H.ma f).length ((aU H.ma f).flatMap uL)∧Below w.heap.size w w':=by
 go_enter func125,ntmps125
 have hc:=h.blk.cell
 unfold pF at hc
 go_upto_region 3 with (fail)
 clear hc
 go_loopw [5,15] (fun s5 s15 wr => ∃P:Nat,P≤H.sp.length∧s15 = .int .i64 P∧Own wr w.heap.size 193 2 s5 (nD H.ma f P).length ((nD H.ma f P).flatMap uL)∧Below w.heap.size w wr) (fun _ s15 _=>H.sp.length-(intOf s15).toNat)
 case atStart=>exact⟨0,Nat.zero_le _,rfl,Own.nil _ _ _ _,Below.refl _ _⟩
 case round=>
  obtain⟨P,hP,rfl,hown,hbr⟩:=hrel
  by_cases hlt:P<H.sp.length
  ·obtain⟨S,hS⟩:∃S,H.sp[P]?=some S:=⟨_,List.getElem?_eq_getElem hlt⟩
   have hspN:=Lib.hid (FY hS)
   have kr:=h.below hbr
   obtain⟨g,off,hap,hrd,hrt,hgood⟩:=kr.at hS
   have hc:=kr.blk.cell
   unfold pF at hc
   rw[hap] at hc
   have hPi:(P:Int)<(H.sp.length:Int):=by omega
   go_wp2_with (refine ay _ _ rfl g (off+P*10+2) rfl rfl _ hrt _ underlying53 tab_agg tab_size ?_)
   refine (Ho S.tb (mo S.ts) 1 f _ hgood.tb).mono ?_
   rintro r w1 ⟨v1,rfl,ho1,hb1⟩
   obtain⟨a1,c1,rfl,_⟩:=ho1.rd
   have ho1':=ho1.mono (Nat.zero_le _)
   have hbr1:=ag hbr hb1
   have hown1:=hown.below hb1
   have hLl:(kW S.tb 1 f).length≤64:=FT _ _ _
   have hfS:Hid (kW (dR H.ma P).tb 1 f=kW S.tb 1 f):=Lib.hid (by rw[hspN.out];rfl)
   have hsz:=wQ H.ma f P
   generalize kW S.tb 1 f=L at *
   clear hc hrd hrt hgood kr hown hb1 ho1
   go_upto_region 6 with (fail)
   go_loopw [5,30] (fun s5 s30 wr => ∃j:Nat,j≤L.length∧s30 = .int .i64 j∧Own wr w.heap.size 193 2 s5 (nD H.ma f P++(L.take j).map fun n=>(P,n)).length ((nD H.ma f P++(L.take j).map fun n=>(P,n)).flatMap uL)∧Below w.heap.size w wr∧Own wr 0 3 1 (.slice a1 L.length c1) L.length (L.map eH)) (fun _ s30 _=>L.length-(intOf s30).toNat)
   case atStart=>exact⟨0,Nat.zero_le _,rfl,by simpa using hown1,hbr1,ho1'⟩
   case round=>
    clear hown1 hbr1 ho1'
    obtain⟨j,hj,rfl,hown,hbr,hoL⟩:=hrel
    by_cases hjl:j<L.length
    ·obtain⟨_,_,e9,_,_,_,hrL⟩:=hoL.rd
     cases e9
     obtain⟨bl,ol,rfl,hcl⟩:=iA hrL j hjl
     have hji:(j:Int)<(L.length:Int):=by omega
     have hlen:(nD H.ma f P++(L.take j).map fun n=>(P,n)).length=(nD H.ma f P).length+j:=by rw[List.length_append,List.length_map,List.length_take];omega
     have hstep:Hid (nD H.ma f P++(L.take (j+1)).map (fun n=>(P,n))=(nD H.ma f P++(L.take j).map fun n=>(P,n))++[(P,L[j])]):=Lib.hid (by
      rw[List.take_add_one,List.getElem?_eq_getElem hjl,List.map_append,List.append_assoc];rfl)
     generalize nD H.ma f P++(L.take j).map (fun n=>(P,n))=us at *
     go_wp2_with (at_builtin;(refine dI rfl _ _ 191 rfl w.heap.size 193 (.agg #[.int .i64 0,.int .i64 0]) 2 16 underlying191 us_info rfl (by decide) _ _ _ rfl (hown.alloc _) (some ⟨_,0,none⟩) 1 1 (uL (P,L[j])) rfl (fun h=>(by cases h)) (Nat.le_refl _) rfl (dA.new _ (uC (P,L[j])) _) (OO _) (by unfold maxLen;omega) (by omega) (bQ hbr.size _) ?_))
     intro v2 w2 hown2 hgr2
     have hbel2:=(hbr.alloc hbr.size (.cells (uC (P,L[j])) 193)).grown hgr2 (bQ hbr.size _) (fun k hk=>hown.ge k hk)
     have hoL2:=uf (hoL.alloc (.cells (uC (P,L[j])) 193)) (hown.alloc (.cells (uC (P,L[j])) 193)) (by decide) hgr2
     have hlen2:(us++[(P,L[j])]).length=us.length+1:=by simp
     clear hcl hrL hown hbr hoL hgr2
     go_wp2
     go_roundw
     case rel=>exact⟨j+1,by omega,by go_num,by rw[hstep.out,hlen2,List.flatMap_append,hlen];simpa using hown2,hbel2,hoL2⟩
     case measure=>simp[intOf];omega
    ·have hji:¬(j:Int)<(L.length:Int):=by omega
     have hfin:Hid (nD H.ma f P++(L.take j).map (fun n=>(P,n))=nD H.ma f (P+1)):=Lib.hid (by
      rw[List.take_of_length_le (by omega),zI,hfS.out])
     clear hoL
     go_wp2
     go_roundw
     case rel=>
      have hown':=hown
      rw[hfin.out] at hown'
      exact⟨u5,.int .i64 (P:Int),u8,.int .i64 ((P:Int)+1),⟨P+1,by omega,by go_num,hown'⟩,rfl,rfl,rfl,rfl⟩
     case measure=>simp[intOf];omega
  ·have hfin:Hid (nD H.ma f P=aU H.ma f):=Lib.hid (by
    have:P=H.sp.length:=by omega
    unfold nD aU MH.ma
    simp[this])
   have hPi:¬(P:Int)<(H.sp.length:Int):=by omega
   go_wp2
   go_ret
   rw[←hfin.out]
   exact⟨_,rfl,hown,hbr⟩
theorem jf.frame {e:Int} (h:jf w B b H e) (hf:f<H.m.fs.length) :
  ∃g off cur,H.af=some ⟨g,off,none⟩∧B≤g∧aD w g cur 81∧off+f*13+13≤cur.size∧dA w (some ⟨g,off+f*13,none⟩) (lZ (aO H.ma f))∧(∀j u,(lZ (aO H.ma f))[j]?=some u→cur[off+f*13+j]?=some u)∧b≠g ∧
   ∀(w' : World) (x:Fr),aD w' g (bq cur (off+f*13) (lZ x)) 81→w.grownBy w' (some g)→jf w' B b { H with m:=⟨H.m.fs.set f x,H.m.hand⟩ } e:=by
 have hfe:H.m.fs[f]=aO H.ma f:=by
  have:H.m.fs[f]?=some (aO H.ma f):=rW (m:=H.ma) (f:=f) hf
  rw[List.getElem?_eq_getElem hf] at this
  exact Option.some.inj this
 obtain⟨g,off,cap,cur,hv,hB,hblk,hfit,hset⟩:=lJ eB (by decide) rfl h.ma.fr f hf
 simp only[Value.slice.injEq] at hv
 obtain⟨haf,_,hcf⟩:=hv
 have hfr:=h.ma.fr
 rw[haf] at hfr
 have hcell:=vD hfr hblk
 have hat:∀j u,(lZ (aO H.ma f))[j]?=some u→cur[off+f*13+j]?=some u:=fun j u hj=>by
  rw[Nat.add_assoc]
  exact hcell _ _ (flat_get lZ 13 eB H.m.fs f hf j u (by rw[hfe];exact hj))
 have hbk:b≠g:=fun e=>by
  have h1:=h.blk
  subst e
  unfold aD at h1 hblk
  rw[h1] at hblk
  simp only[Option.some.injEq,Obj.cells.injEq] at hblk
  exact absurd hblk.2.1 (by decide)
 refine⟨g,off,cur,haf,hB,hblk,hfit,fun j u hj=>⟨g,_,rfl,by rw[hblk.cell];exact hat j u hj⟩,hat,hbk,fun w' x hb hg => ?_⟩
 have hlen:(H.m.fs.set f x).length=H.m.fs.length:=List.length_set
 refine⟨?_,h.ge,⟨?_,ak h.ma.sl hblk (by decide) hg,h.ma.sw.keep hblk (by decide) (by decide) hg,h.ma.dk.keep hblk (by decide) (by decide) hg,h.ma.st.keep hblk (by decide) (by decide) hg,ak h.ma.ca hblk (by decide) hg,ak h.ma.sp hblk (by decide) hg,fun q hq=>⟨ak (h.ma.ps q hq).1 hblk (by decide) hg,(h.ma.ps q hq).2.keep hblk (by decide) hg⟩,h.ma.c64⟩,h.tz⟩
 ·have:pF { H with m:=⟨H.m.fs.set f x,H.m.hand⟩ } e=pF H e:=by unfold pF;simp only[hlen]
  rw[this]
  exact h.blk.grown hg (fun e=>hbk (Option.some.inj e).symm)
 ·simp only[hlen]
  exact hset w' _ hb
theorem putAt_one {o:Nat}:∀ {vs:List Value} {j:Nat} {v:Value},(∀i u,vs[i]?=some u→cur[o+i]?=some u)→j<vs.length→bq cur o (vs.set j v)=cur.setIfInBounds (o+j) v:=by
 intro vs j v hat hj
 apply Array.ext_getElem?
 intro i
 rw[Array.getElem?_setIfInBounds]
 have hsz:∀k,k<vs.length→o+k<cur.size:=fun k hk=>(Array.getElem?_eq_some_iff.1 (hat k _ (List.getElem?_eq_getElem hk))).1
 by_cases h1:i<o∨o+vs.length≤i
 ·rw[putAt_out _ _ _ _ (by rw[List.length_set];omega),if_neg (by omega)]
 ·have hi:i-o<vs.length:=by omega
  have:=putAt_in (vs.set j v) cur o (i-o) ((vs.set j v)[i-o]'(by rw[List.length_set];exact hi)) (by rw[List.length_set];have:=hsz (vs.length-1) (by omega);omega) (List.getElem?_eq_getElem _)
  rw[show o+(i-o)=i by omega] at this
  rw[this,List.getElem_set]
  by_cases e:j=i-o
  ·rw[if_pos e,if_pos (by omega),if_pos (by have:=hsz j hj;omega)]
  ·rw[if_neg e,if_neg (by omega)]
   have:=hat (i-o) _ (List.getElem?_eq_getElem hi)
   rw[show o+(i-o)=i by omega] at this
   exact this.symm
theorem Be (s:St) (f i:Int):(cO s f i).count=s.count∨(cO s f i).count=0:=by
 unfold cO
 split
 ·exact .inr rfl
 ·split
  ·exact .inl rfl
  ·exact .inl rfl
theorem Lf {o:Nat} (m:World→Prop) (h:∀W,w.grownBy W (some b)→(∀ {cur T},aD w b cur T→aD W b (bq cur o vs) T)→m W):m (w.setCells b o vs).drew:=by
 have h1:=aA w b o vs
 exact h _ ⟨h1.os,h1.tape,h1.output,h1.size,h1.block⟩ fun hb=>hb.setCells vs o
theorem Fz : (Tryz.prog.info? 4).map (·.size)=some 1:=by kernel_rfl
def Jg (B:Nat) (S:St) (N E:Int):jJ:=⟨fun v w => ∃u ps k,v = .tuple #[.agg #[u,.int .i64 k],.int .i64 N,.int .i64 E]∧kD w B u ps∧bY ps k=S,fun _ _ _ hb ⟨u,ps,k,h1,h2,h3⟩=>⟨u,ps,k,h1,h2.below hb,h3⟩⟩
def wC (B:Nat) (d:nT) (E:Int):jJ:=⟨fun v w => ∃a b,v = .tuple #[.agg #[a,b],.int .i64 E]∧fQ w B a b d,fun _ _ _ hb ⟨a,b,h1,h2⟩=>⟨a,b,h1,h2.below hb⟩⟩
theorem xC (H:MH) (e:Int) (f:Nat) (B b:Nat) (w:World) (h:jf w B b H e) (hf:f<H.m.fs.length) :
  Calls Tryz.prog 57 #[.pointer (some ⟨b,0,none⟩),.int .i64 f] w fun r w'=>r = .returned (.bool (fO H.ma f))∧KR w B b H w' (gN ⟨H.ma,e⟩ f):=by
 obtain⟨g,off,cur,haf,hBg,hblk,hfit,hrd,hat,hbg,hset⟩:=h.frame hf
 generalize hx:aO H.ma f=x at *
 have hx':=Lib.hid hx
 clear hx hset
 have hc:=h.blk.cell
 unfold pF at hc
 rw[haf] at hc
 have hfi:(f:Int)<(H.m.fs.length:Int):=by omega
 have q10:cur[off+f*13+10]?=some (.bool x.d):=hat 10 _ rfl
 have q11:cur[off+f*13+11]?=some (.int .i64 x.f):=hat 11 _ rfl
 have q12:cur[off+f*13+12]?=some (.int .i64 x.i):=hat 12 _ rfl
 have hcg:=hblk.cell
 have hfg:=hblk.free
 have hat':=Lib.hid hat
 clear hat
 go_enter func57,ntmps57
 by_cases h1:x.f<0
 ·have hq:Hid (gN ⟨H.ma,e⟩ f=⟨H.ma,e⟩):=Lib.hid (by
   unfold gN;simp only[hx'.out];rw[if_pos (.inl h1)])
  have hq2:Hid (fO H.ma f=true):=Lib.hid (by unfold fO;rw[hx'.out];simp[h1])
  have hh:=Lib.hid h
  clear h
  go_wp2
  go_ret
  rw[hq.out,hq2.out]
  exact⟨rfl,_,_,hh.out,KS.refl _ _ _,rfl⟩
 ·cases hd:x.d with
  | false=>
   have hq:Hid (gN ⟨H.ma,e⟩ f=⟨H.ma,e⟩):=Lib.hid (by
    unfold gN;simp only[hx'.out];rw[if_pos (.inr (.inl hd))])
   have hq2:Hid (fO H.ma f=true):=Lib.hid (by unfold fO;rw[hx'.out,hd];simp)
   rw[hd] at q10
   have hh:=Lib.hid h
   clear h
   go_wp2
   go_ret
   rw[hq.out,hq2.out]
   exact⟨rfl,_,_,hh.out,KS.refl _ _ _,rfl⟩
  | true=>
   rw[hd] at q10
   go_upto_region 4 with (fail)
   have hm:=Lib.hid h
   refine ko 22 [_,_,_,_,_,_,_,_,_,_,_,_,_,.r 13 ((Jg w.heap.size (cO H.ma.st x.f x.i) (dh H.ma.st x.f x.i) (bL H.ma.st x.f x.i))),.r 14 ((Jg w.heap.size (cO H.ma.st x.f x.i) (dh H.ma.st x.f x.i) (bL H.ma.st x.f x.i))),.r 15 ((EZ w.heap.size (cO H.ma.st x.f x.i))),.v (.int .i64 (dh H.ma.st x.f x.i)),.v (.int .i64 (bL H.ma.st x.f x.i)),.r 18 ((iT w.heap.size 37 2)),.y 19 ((KD 18 w.heap.size 37 (EZ w.heap.size (cO H.ma.st x.f x.i)))),.v (.int .i64 (dh H.ma.st x.f x.i)),.v (.int .i64 (bL H.ma.st x.f x.i))] (fun W=>Below w.heap.size w W) eP (Below.refl _ _) (Yk eP rfl (Yk eP rfl (Yf eP b 0 rfl rfl (Yf eP b 7 rfl rfl (Yr eP (.agg #[.slice H.ai H.fi.length H.ci,.int .i64 H.ct]) (fun ρ y W hb hKn=>(bu rfl (aF rfl hKn) (h.below hb).rdS underlying37 rfl store_size)) rfl rfl (Yk eP rfl (Yk eP rfl (Yf eP g (off+f*13+11) rfl rfl (Yc eP (.int .i64 x.f) (fun W hb=>by simp[(hblk.ext hb).cell,q11]) rfl rfl rfl rfl (Yk eP rfl (Yk eP rfl (Yf eP g (off+f*13+12) rfl rfl (Yc eP (.int .i64 x.i) (fun W hb=>by simp[(hblk.ext hb).cell,q12]) rfl rfl rfl rfl (ae ?_ (ae ?_ (ae ?_ (ae ?_ (ae ?_ (ae ?_ (ae ?_ (Yk eP rfl (Yk eP rfl (aB))))))))))))))))))))))) (fun _=>rfl) rfl ?_
   ·intro ρ y W hw hn hb hd
    refine jI eP hb ((Jg w.heap.size (cO H.ma.st x.f x.i) (dh H.ma.st x.f x.i) (bL H.ma.st x.f x.i))) (fun _ _ h=>h) ?_
    have E35:=hw 35 4 rfl
    have h4:y 4 = .agg #[.slice H.ai H.fi.length H.ci,.int .i64 H.ct]:=hd 4 rfl
    have E39:=hw 39 8 rfl
    have h8:y 8 = .int .i64 x.f:=hd 8 rfl
    have E43:=hw 43 12 rfl
    have h12:y 12 = .int .i64 x.i:=hd 12 rfl
    have EF:∀f,ρ (.func f) = .func (.func f) #[] #[]:=fun f=>hn (.func f) trivial
    refine aM _ _ (ah rfl) (aN rfl (EF _) func91 (by kernel_rfl) (by kernel_rfl) (by simp only[List.map_toArray,List.map_cons,List.map_nil,E35,h4,E39,h8,E43,h12,EF];rfl)) ?_
    refine (FL H.fi H.ct x.f x.i H.ai H.ci W (h.below hb).ma.rd.st h.ma.c64).mono ?_
    rintro r W2 ⟨u,ps,k,rfl,ho,hst,hb2⟩
    exact⟨_,rfl,hb2,u,ps,k,rfl,ho.mono hb.size,hst⟩
   ·intro ρ y W hw hn hb hd
    refine jI eP hb ((Jg w.heap.size (cO H.ma.st x.f x.i) (dh H.ma.st x.f x.i) (bL H.ma.st x.f x.i))) (fun _ _ h=>h) ?_
    have E44:=hw 44 13 rfl
    have h13:=hd 13 rfl
    refine aj _ (ah rfl) (run_move (.inl rfl) E44) ?_
    exact h13
   ·intro ρ y W hw hn hb hd
    refine jI eP hb ((EZ w.heap.size (cO H.ma.st x.f x.i))) (fun _ _ h=>h) ?_
    have E30:=hw 30 14 rfl
    have h14:=hd 14 rfl
    obtain⟨u,ps,k,hu,ho,hst⟩:=h14
    refine aj (.agg #[u,.int .i64 k]) (ah rfl) (by simp[execOp,go_sem,bC,E30,hu]) ?_
    exact⟨u,ps,k,rfl,ho,hst⟩
   ·intro ρ y W hw hn hb hd
    refine jI eP hb (oV (.int .i64 (dh H.ma.st x.f x.i))) (fun _ _ h=>h) ?_
    have E30:=hw 30 14 rfl
    have h14:=hd 14 rfl
    obtain⟨u,ps,k,hu,ho,hst⟩:=h14
    refine aj (.int .i64 (dh H.ma.st x.f x.i)) (ah rfl) (by simp[execOp,go_sem,bC,E30,hu]) rfl
   ·intro ρ y W hw hn hb hd
    refine jI eP hb (oV (.int .i64 (bL H.ma.st x.f x.i))) (fun _ _ h=>h) ?_
    have E30:=hw 30 14 rfl
    have h14:=hd 14 rfl
    obtain⟨u,ps,k,hu,ho,hst⟩:=h14
    refine aj (.int .i64 (bL H.ma.st x.f x.i)) (ah rfl) (by simp[execOp,go_sem,bC,E30,hu]) rfl
   ·intro ρ y W hw hn hb hd
    refine jI eP hb ((iT w.heap.size 37 2)) (fun _ _ h=>h) ?_
    refine iG (.pointer (some ⟨W.heap.size,0,none⟩)) (ah rfl) (by simp[execOp,go_sem,bC]) ((Below.refl _ _).alloc (Nat.le_refl _) (.cells #[.slice none 0 0,.int .i64 0] 37)) ?_
    exact⟨_,_,rfl,hb.size,aD.new _ _ _,rfl⟩
   ·intro ρ y W hw hn hb hd;have E6:=hw 6 18 rfl;have h18:=hd 18 rfl;have E45:=hw 45 15 rfl;have h15:=hd 15 rfl
    obtain⟨u,ps,k,e7,ho7,hst7⟩:=h15
    obtain⟨g3,cur3,e9,hg9,hb9,hs9⟩:=h18
    obtain⟨au,cu,rfl,_⟩:=ho7.rd
    refine mV (ah rfl) _ _ _ rfl g3 0 (.agg #[.slice au ps.length cu,.int .i64 k]) [.slice au ps.length cu,.int .i64 k] (E6.trans e9) (E45.trans e7) rfl cur3 _ hb9 (by rw[hs9];exact Nat.le_refl _) store_size (bv (nz _ _ _ _)) ?_
    intro w1 hw1 hgr
    rw[show [Value.slice au ps.length cu,Value.int .i64 k]=(#[Value.slice au ps.length cu,Value.int .i64 k]:Array Value).toList from rfl,ik cur3 _ (by rw[hs9];rfl)] at hw1
    refine⟨hb.grown hgr hb.size (fun k hk=>by cases hk;exact hg9),⟨g3,_,e9,hg9,hw1,⟨_,ps,k,rfl,ho7.keep hb9 (by decide) (by decide) hgr,hst7⟩⟩,?_⟩
    intro k hk hne
    match k,hk,hne with
    | 0,_,_=>exact fun h=>h
    | 1,_,_=>exact fun h=>h
    | 2,_,_=>exact fun h=>h
    | 3,_,_=>exact fun h=>h
    | 4,_,_=>exact fun h=>h
    | 5,_,_=>exact fun h=>h
    | 6,_,_=>exact fun h=>h
    | 7,_,_=>exact fun h=>h
    | 8,_,_=>exact fun h=>h
    | 9,_,_=>exact fun h=>h
    | 10,_,_=>exact fun h=>h
    | 11,_,_=>exact fun h=>h
    | 12,_,_=>exact fun h=>h
    | 13,_,_=>exact fun⟨c,q0,q1,q2,q3,q4⟩=>⟨c,q0,q1,q2,q3.keep hb9 (by decide) (by decide) hgr,q4⟩
    | 14,_,_=>exact fun⟨c,q0,q1,q2,q3,q4⟩=>⟨c,q0,q1,q2,q3.keep hb9 (by decide) (by decide) hgr,q4⟩
    | 15,_,_=>exact fun⟨c,q0,q1,q2,q3,q4⟩=>⟨c,q0,q1,q2,q3.keep hb9 (by decide) (by decide) hgr,q4⟩
    | 16,_,_=>exact fun h=>h
    | 17,_,_=>exact fun h=>h
    | 18,_,_=>exact fun q=>lK q hw1 (fun _=>rfl) ⟨_,hb9⟩ hgr
    | 19,_,h=>exact absurd rfl h
    | 20,_,_=>exact fun h=>h
    | 21,_,_=>exact fun h=>h
    | n+22,h,_=>exact absurd h (by omega)
   intro y W2 hbW2 hRW2
   replace hbW2:Below w.heap.size w W2:=hbW2
   have hy13:((Jg w.heap.size (cO H.ma.st x.f x.i) (dh H.ma.st x.f x.i) (bL H.ma.st x.f x.i))).r (y 13) W2:=hRW2 13 (by decide)
   have hy14:((Jg w.heap.size (cO H.ma.st x.f x.i) (dh H.ma.st x.f x.i) (bL H.ma.st x.f x.i))).r (y 14) W2:=hRW2 14 (by decide)
   have hy15:((EZ w.heap.size (cO H.ma.st x.f x.i))).r (y 15) W2:=hRW2 15 (by decide)
   have hy18:((iT w.heap.size 37 2)).r (y 18) W2:=hRW2 18 (by decide)
   have hy19:=hRW2 19 (by decide)
   clear hRW2
   simp only[bH,bC,List.map_cons,List.map_nil]
   obtain⟨gs,cs,hys,hgs,hbs,us,ps,ks,hcs,ho2,hst2⟩:=hy19
   simp only[Value.agg.injEq] at hcs
   subst hcs
   obtain⟨au,cu,rfl,_⟩:=ho2.rd
   have k2:=h.below hbW2
   have s2:=(KS.refl w b H).below hbW2
   have hblk2:=hblk.ext hbW2
   have hrd2:=hrd.below hbW2
   have hgs':=Lib.hid hgs
   clear hy13 hy14 hy15 hy18 hc hcg hfg hgs
   by_cases hE:bL H.ma.st x.f x.i=0
   ·have hq:Hid (gN ⟨H.ma,e⟩ f=⟨setFr { H.ma with st:=cO H.ma.st x.f x.i,dk:=bT H.dk (dh H.ma.st x.f x.i) x.p } f { x with d:=false },gW e (aH H.dk (dh H.ma.st x.f x.i))⟩):=Lib.hid (by
     unfold gN;simp only[hx'.out]
     rw[if_neg]
     ·rfl
     ·rintro (q|q|q)
      ·exact h1 q
      ·rw[hd] at q;cases q
      ·exact q hE)
    have hq2:Hid (fO H.ma f=true):=Lib.hid (by unfold fO;rw[hx'.out,hE];simp)
    rw[hE]
    clear hE
    have hN64:Hid (bL H.ma.st x.f x.i=bL H.ma.st x.f x.i):=Lib.hid rfl
    generalize dh H.ma.st x.f x.i=N at *
    go_upto_region 7 with (fail)
    refine ko 17 [_,_,_,_,_,_,_,_,_,_,.r 10 ((wC W2.heap.size (bT H.dk N x.p) (aH H.dk N))),.r 11 ((wC W2.heap.size (bT H.dk N x.p) (aH H.dk N))),.r 12 ((rJ W2.heap.size (bT H.dk N x.p))),.v (.int .i64 (aH H.dk N)),.r 14 ((iT W2.heap.size 34 2)),.y 15 ((KD 14 W2.heap.size 34 (rJ W2.heap.size (bT H.dk N x.p)))),.v (.int .i64 (aH H.dk N))] (fun W=>Below W2.heap.size W2 W) eP (Below.refl _ _) (Yk eP rfl (Yk eP rfl (Yf eP b 0 rfl rfl (Yf eP b 5 rfl rfl (Yr eP (.agg #[.slice H.db H.dk.blocks.length H.cdb,.slice H.dq H.dk.queue.length H.cdq]) (fun ρ y W hb hKn=>(bu rfl (aF rfl hKn) (k2.below hb).rdD underlying34 rfl disk_size)) rfl rfl (Yk eP rfl (Yk eP rfl (Yk eP rfl (Yf eP g (off+f*13) rfl rfl (Yr eP (.agg (gD x.p)) (fun ρ y W hb hKn=>(bu rfl (aF rfl hKn) (oO (hrd2.below hb) 0 8) underlying79 rfl psize)) rfl rfl (ae ?_ (ae ?_ (ae ?_ (ae ?_ (ae ?_ (ae ?_ (Yk eP rfl (aB)))))))))))))))))) (fun _=>rfl) rfl ?_
    ·intro ρ y W hw hn hb hd
     refine jI eP hb ((wC W2.heap.size (bT H.dk N x.p) (aH H.dk N))) (fun _ _ h=>h) ?_
     have E55:=hw 55 4 rfl
     have h4:y 4 = .agg #[.slice H.db H.dk.blocks.length H.cdb,.slice H.dq H.dk.queue.length H.cdq]:=hd 4 rfl
     have E56:=hw 56 5 rfl
     have h5:y 5 = .int .i64 N:=hd 5 rfl
     have E60:=hw 60 9 rfl
     have h9:y 9 = .agg (gD x.p):=hd 9 rfl
     have EF:∀f,ρ (.func f) = .func (.func f) #[] #[]:=fun f=>hn (.func f) trivial
     refine aM _ _ (ah rfl) (aN rfl (EF _) func92 (by kernel_rfl) (by kernel_rfl) (by simp only[List.map_toArray,List.map_cons,List.map_nil,E55,h4,E56,h5,E60,h9,EF];rfl)) ?_
     refine (xD H.dk N x.p H.db H.cdb H.dq H.cdq W (k2.below hb).ma.rd.dk).mono ?_
     rintro r W3 ⟨vb,vq,rfl,ho,hb3⟩
     exact⟨_,rfl,hb3,vb,vq,rfl,ho.mono hb.size⟩
    ·intro ρ y W hw hn hb hd
     refine jI eP hb ((wC W2.heap.size (bT H.dk N x.p) (aH H.dk N))) (fun _ _ h=>h) ?_
     have E61:=hw 61 10 rfl
     have h10:=hd 10 rfl
     refine aj _ (ah rfl) (run_move (.inl rfl) E61) ?_
     exact h10
    ·intro ρ y W hw hn hb hd
     refine jI eP hb ((rJ W2.heap.size (bT H.dk N x.p))) (fun _ _ h=>h) ?_
     have E50:=hw 50 11 rfl
     have h11:=hd 11 rfl
     obtain⟨vb,vq,hu,ho⟩:=h11
     refine aj (.agg #[vb,vq]) (ah rfl) (by simp[execOp,go_sem,bC,E50,hu]) ?_
     exact⟨vb,vq,rfl,ho⟩
    ·intro ρ y W hw hn hb hd
     refine jI eP hb (oV (.int .i64 (aH H.dk N))) (fun _ _ h=>h) ?_
     have E50:=hw 50 11 rfl
     have h11:=hd 11 rfl
     obtain⟨vb,vq,hu,ho⟩:=h11
     refine aj (.int .i64 (aH H.dk N)) (ah rfl) (by simp[execOp,go_sem,bC,E50,hu]) rfl
    ·intro ρ y W hw hn hb hd
     refine jI eP hb ((iT W2.heap.size 34 2)) (fun _ _ h=>h) ?_
     refine iG (.pointer (some ⟨W.heap.size,0,none⟩)) (ah rfl) (by simp[execOp,go_sem,bC]) ((Below.refl _ _).alloc (Nat.le_refl _) (.cells #[.slice none 0 0,.slice none 0 0] 34)) ?_
     exact⟨_,_,rfl,hb.size,aD.new _ _ _,rfl⟩
    ·intro ρ y W hw hn hb hd;have E9:=hw 9 14 rfl;have h14:=hd 14 rfl;have E62:=hw 62 12 rfl;have h12:=hd 12 rfl
     obtain⟨vb,vq,e7,ho7⟩:=h12
     obtain⟨g3,cur3,e9,hg9,hb9,hs9⟩:=h14
     obtain⟨ab,cb,rfl,_⟩:=ho7.b.rd
     obtain⟨aq,cq,rfl,_⟩:=ho7.q.rd
     refine mV (ah rfl) _ _ _ rfl g3 0 (.agg #[.slice ab _ cb,.slice aq _ cq]) [.slice ab _ cb,.slice aq _ cq] (E9.trans e9) (E62.trans e7) rfl cur3 _ hb9 (by rw[hs9];exact Nat.le_refl _) disk_size (bv (jW _ _ _ _ _ _)) ?_
     intro w1 hw1 hgr
     rw[show ∀(p q:Value),[p,q]=(#[p,q]:Array Value).toList from fun _ _=>rfl,ik cur3 _ (by rw[hs9];rfl)] at hw1
     refine⟨hb.grown hgr hb.size (fun k hk=>by cases hk;exact hg9),⟨g3,_,e9,hg9,hw1,⟨_,_,rfl,ho7.keep hb9 (by decide) (by decide) hgr⟩⟩,?_⟩
     intro k hk hne
     match k,hk,hne with
     | 0,_,_=>exact fun h=>h
     | 1,_,_=>exact fun h=>h
     | 2,_,_=>exact fun h=>h
     | 3,_,_=>exact fun h=>h
     | 4,_,_=>exact fun h=>h
     | 5,_,_=>exact fun h=>h
     | 6,_,_=>exact fun h=>h
     | 7,_,_=>exact fun h=>h
     | 8,_,_=>exact fun h=>h
     | 9,_,_=>exact fun h=>h
     | 10,_,_=>exact fun⟨c,q0,q1,q2⟩=>⟨c,q0,q1,q2.keep hb9 (by decide) (by decide) hgr⟩
     | 11,_,_=>exact fun⟨c,q0,q1,q2⟩=>⟨c,q0,q1,q2.keep hb9 (by decide) (by decide) hgr⟩
     | 12,_,_=>exact fun⟨c,q0,q1,q2⟩=>⟨c,q0,q1,q2.keep hb9 (by decide) (by decide) hgr⟩
     | 13,_,_=>exact fun h=>h
     | 14,_,_=>exact fun q=>lK q hw1 (fun _=>rfl) ⟨_,hb9⟩ hgr
     | 15,_,h=>exact absurd rfl h
     | 16,_,_=>exact fun h=>h
     | n+17,h,_=>exact absurd h (by omega)
    intro y W3 hbW3 hRW3
    replace hbW3:Below W2.heap.size W2 W3:=hbW3
    have hy10:((wC W2.heap.size (bT H.dk N x.p) (aH H.dk N))).r (y 10) W3:=hRW3 10 (by decide)
    have hy11:((wC W2.heap.size (bT H.dk N x.p) (aH H.dk N))).r (y 11) W3:=hRW3 11 (by decide)
    have hy12:((rJ W2.heap.size (bT H.dk N x.p))).r (y 12) W3:=hRW3 12 (by decide)
    have hy14:((iT W2.heap.size 34 2)).r (y 14) W3:=hRW3 14 (by decide)
    have hy15:=hRW3 15 (by decide)
    clear hRW3
    simp only[bH,bC,List.map_cons,List.map_nil]
    obtain⟨gd,cd,hyd,hgd,hbd,vb,vq,hcd,ho3⟩:=hy15
    simp only[Value.agg.injEq] at hcd
    subst hcd
    obtain⟨ab,cb,rfl,_⟩:=ho3.b.rd
    obtain⟨aq,cq,rfl,_⟩:=ho3.q.rd
    have k3:=k2.below hbW3
    have s3:=s2.below hbW3
    have hbs3:=hbs.ext hbW3
    have ho23:=ho2.below hbW3
    have hw2:=Lib.hid s2.size
    have hrd3:=hrd2.below hbW3
    clear hy10 hy11 hy12 hy14 k2 s2 hblk2 hbs ho2 hbW3 hrd2
    go_wp2_with fail
    refine (oM _ e (aH H.dk N) _ _ _ k3).mono ?_
    rintro r w4 ⟨rfl,k4,hg4⟩
    have s4:=s3.putB hg4 rfl rfl rfl
    have ho34:=ho3.keep k3.blk (by decide) (by decide) hg4
    have ho24:=ho23.keep k3.blk (by decide) (by decide) hg4
    have hbs4:=aW hbs3 k3.blk (by decide) hg4
    have hbd4:=aW hbd k3.blk (by decide) hg4
    clear k3 s3 ho3 ho23 hbs3 hbd hg4 hrd3
    have hcb:=k4.blk.cell
    have hfb:=k4.blk.free
    unfold pF at hcb
    have hcs:=hbs4.cell
    have hcd:=hbd4.cell
    have n1:=jB k4.blk hbs4 (by decide)
    have n2:=jB k4.blk hbd4 (by decide)
    have n3:=jB hbs4 hbd4 (by decide)
    go_upto_region 9 with (fail)
    go_region
    refine Lf (w:=w4.setCells b 7 [.slice au ps.length cu,.int .i64 ks]) (b:=b) (o:=5) (vs:=[.slice ab (bT H.dk N x.p).blocks.length cb,.slice aq (bT H.dk N x.p).queue.length cq]) (fun W=>Exit.then _ _ _ _ W) fun w6 hg6 hb6 => ?_
    have hct : -9223372036854775808≤ks∧ks≤9223372036854775807:=by
     have e1:ks=(cO H.ma.st x.f x.i).count:=by rw[←hst2];rfl
     have e2:=h.ma.c64
     have e3:H.ma.st.count=H.ct:=rfl
     rcases Be H.ma.st x.f x.i with e4|e4<;>rw[e1,e4]<;>omega
    have hg5:=aA w4 b 7 [.slice au ps.length cu,.int .i64 ks]
    have hb5:=k4.blk.setCells [.slice au ps.length cu,.int .i64 ks] 7
    have k5:=k4.setS (ho24.mono h.bs) hct hb5 hg5
    have s5:=s4.putB (H':={ H with ai:=au,ci:=cu,fi:=ps,ct:=ks }) hg5 rfl rfl rfl
    have ho35:=ho34.keep k4.blk (by decide) (by decide) hg5
    have hb6':=hb6 k5.blk
    have k6:=k5.setD (ho35.mono (Nat.le_trans h.bs hw2.out)) hb6' hg6
    have s6:=s5.putB (H':={ H with ai:=au,ci:=cu,fi:=ps,ct:=ks,db:=ab,cdb:=cb,dq:=aq,cdq:=cq,dk:=bT H.dk N x.p }) hg6 rfl rfl rfl
    clear hb6 hb6' hg6 k5 s5 ho35 hb5 hg5 hct k4 s4 ho34 ho24 hcb hfb hcs hcd hbs4 hbd4
    obtain⟨g7,off7,cur7,haf7,hBg7,hblk7,hfit7,hrd7,hat7,hbg7,hset7⟩:=k6.frame hf
    have hgg:g7=g∧off7=off:=by
     have:H.af=some ⟨g7,off7,none⟩:=haf7
     rw[haf] at this
     simp only[Option.some.injEq,Addr.mk.injEq,and_true] at this
     exact⟨this.1.symm,this.2.symm⟩
    obtain⟨rfl,rfl⟩:=hgg
    have hx7:aO (MH.ma { H with ai:=au,ci:=cu,fi:=ps,ct:=ks,db:=ab,cdb:=cb,dq:=aq,cdq:=cq,dk:=bT H.dk N x.p }) f=x:=hx'.out
    rw[hx7] at hat7
    have hput:=putAt_one (v:=.bool false) (j:=10) hat7 (by rw[eB];decide)
    go_wp2_with (refine az rfl _ _ _ rfl g7 (off7+f*13+10) _ [.bool false] rfl rfl rfl _ _ hblk7 (by simp;omega) Fz (fun u hu=>by cases List.mem_singleton.1 hu;rfl) ?_)
    intro w8 hb8 hg8
    have hb8' : aD w8 g7 (bq cur7 (off7+f*13) (lZ { x with d:=false })) 81:=by
     have e1:lZ { x with d:=false }=(lZ x).set 10 (.bool false):=rfl
     rw[e1,hput]
     exact hb8
    have k8:=hset7 w8 { x with d:=false } hb8' hg8
    have s8:=s6.put (H':={ H with ai:=au,ci:=cu,fi:=ps,ct:=ks,db:=ab,cdb:=cb,dq:=aq,cdq:=cq,dk:=bT H.dk N x.p,m:=⟨H.m.fs.set f { x with d:=false },H.m.hand⟩ }) hg8 (.inr (.inl (by show oB H.af=_;rw[haf];rfl))) fun y hy => .inl (AC rfl rfl rfl hy)
    go_wp2
    go_ret
    rw[hq.out,hq2.out]
    refine⟨rfl,_,_,k8,s8,?_⟩
    unfold MH.ma setFr
    simp only[hst2]
    rfl
   ·have hq:Hid (gN ⟨H.ma,e⟩ f=⟨H.ma,e⟩):=Lib.hid (by
     unfold gN;simp only[hx'.out];rw[if_pos (.inr (.inr hE))])
    have hq2:Hid (fO H.ma f=false):=Lib.hid (by
     unfold fO;rw[hx'.out]
     simp only[Bool.or_eq_false_iff,decide_eq_false_iff_not,Bool.not_eq_false']
     exact⟨⟨h1,hd⟩,hE⟩)
    go_wp2
    go_ret
    rw[hq.out,hq2.out]
    exact⟨rfl,_,_,k2,s2,rfl⟩
end Go.Proofs.YtjkkoeijlhfneaaGreat