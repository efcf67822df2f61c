import Derived.Test.YtjkkoeijlhfneaaGreatU4
import Derived.ArgAppend
import Derived.Deep.DeepCutAuto
import Derived.BigRegion
set_option linter.unusedSimpArgs false
set_option linter.unusedVariables false
set_option maxHeartbeats 4000000
set_option maxRecDepth 100000
namespace Go.Proofs.YtjkkoeijlhfneaaGreat
open Go.RowKit Go.Maps Pw
def MW.lst (S:MW) (a:Option Addr) (c:Nat) (l:List UInt8):MW:={ S with al:=a,cl:=c,l:=l }
theorem jN (S:MW) (a a' : Option Addr) (c c' : Nat) (l l' : List UInt8):(S.lst a c l).lst a' c' l' = S.lst a' c' l':=rfl
theorem Gx {w:World} {a:Option Addr} {x:UInt8} {l:List UInt8} (h:cZ w a ((x::l).map kT)):∃b o,a=some ⟨b,o,none⟩∧w.cell? ⟨b,o,none⟩=some (kT x)∧cZ w (some ⟨b,o+1,none⟩) (l.map kT):=by
 obtain⟨b,o,rfl,hc⟩:=h.at (by simp)
 exact⟨b,o,rfl,hc 0 _ rfl,fun i u hi=>⟨b,o+1,rfl,by
  have:=hc (i+1) u (by simpa using hi)
  rw[show o+1+i=o+(i+1) by omega];exact this⟩⟩
theorem dm.locT {w w' : World} {B b:Nat} {S:MW} (h:dm w B b S) {g:Nat} {cs:Array Value} {T:TypeId} (hk:aF w g cs T) (hT:T≠3∧T≠99∧T≠89) (hn:¬iY b S g) (hgB:B≤g) (hg:w.grownBy w' (some g)):dm w' B b S:=by
 have hne:∀ {a:Option Addr},oB a∈dZ S→∀n c g',(Value.slice a n c).ownBlock=some g'→some g≠some g':=fun hm n c g' he e=>by
  cases e
  rw[iK] at he
  exact hn (.inr (by rw[←he];exact hm))
 have m:∀ {x:Option Nat} {l:List (Option Nat)},x∈x::l:=List.mem_cons_self
 refine⟨h.blk.grown hg (fun e=>hn (.inl (Option.some.inj e))),h.ge,⟨h.ma.fr.grown hg (hne (by simp[dZ]) _ _),h.ma.sl.grown hg (hne (by simp[dZ]) _ _),⟨h.ma.sw.b.grown hg (hne (by simp[dZ]) _ _),h.ma.sw.q.grown hg (fun g' he=>by rw[h.n3] at he;cases he)⟩,⟨h.ma.dk.b.grown hg (hne (by simp[dZ]) _ _),h.ma.dk.q.grown hg (hne (by simp[dZ]) _ _)⟩,
  ⟨h.ma.st.own.grown hg (hne (by simp[dZ]) _ _),fun i p hp=>ak (h.ma.st.each i p hp) hk hT.1 hg,h.ma.st.apart⟩,h.ma.ca.grown hg (hne (by simp[dZ]) _ _),h.ma.sp.grown hg (hne (by simp[dZ]) _ _),fun p hp=>⟨ak (h.ma.ps p hp).1 hk hT.2.1 hg,(h.ma.ps p hp).2.keep hk hT.2.2 hg⟩,h.ma.c64⟩,
  h.tt.grown hg (hne (by simp[dZ]) _ _),h.rd.keep h.ra h.bs hg hgB,h.ra,h.n1,h.n2,h.n3⟩
def Ng (S:MW) (n:Int) (B b:Nat) (w:World) (r:Ending) (w' : World):Prop:=∃x a c l,r = .returned (.int .i64 x)∧dm w' B b (S.lst a c l)∧MS w b S w' (S.lst a c l)∧(0≤x∧x<256∧(x<n∨x=0))∧(S.l=[]→x=0∧l=[])
theorem dH (S:MW) (n:Int) (B b:Nat) (w:World) (h:dm w B b S) (hn : -9223372036854775808≤n∧n≤9223372036854775807) :
  Calls Tryz.prog 30 #[.pointer (some ⟨b,0,none⟩),.int .i64 n] w (Ng S n B b w):=by
 obtain⟨al,cl,l,H,ab,cb,T⟩:=S
 have hr:lX w al cl l.length (l.map kT):=h.rd
 have hra:∀a,al=some a→l.map kT≠[]→a.block<B:=h.ra
 have hc:=h.blk.cell
 unfold eP at hc
 dsimp only at hc
 have h':=Lib.hid h
 have hra':=Lib.hid hra
 go_enter Tryz.func30,Tryz.ntmps30
 cases l with
 | nil=>
  clear h hr hra
  go_wp2
  go_ret
  exact⟨0,al,cl,[],rfl,h'.out,MS.refl _ _ _,by omega,fun _=>⟨rfl,rfl⟩⟩
 | cons x l=>
  obtain⟨bl,ol,rfl,hcb,hrd⟩:=Gx hr.rd
  have hrl:l.length+1≤cl:=by have:=hr.le;simpa using this
  have hrm:=Lib.hid hr.mx
  have hrd':=Lib.hid hrd
  have hblk:=h.blk
  clear h hr hra hrd
  unfold kT at hcb
  by_cases hn1:n<1
  ·go_wp2
   go_ret
   exact⟨0,_,cl,x::l,rfl,h'.out,MS.refl _ _ _,by omega,fun e=>(by cases e)⟩
  ·have hl1:(1:Int)≤((l.length+1:Nat):Int):=by omega
   have h1:=Lib.hid x.toNat_lt
   have hx0:Hid ((0:Int)≤(x.toNat:Int)%n∧(x.toNat:Int)%n<256∧((x.toNat:Int)%n<n∨(x.toNat:Int)%n=0)):=Lib.hid (by
    have h3:=Int.emod_nonneg (x.toNat:Int) (show n≠0 by omega)
    have h4:=Int.emod_lt_of_pos (x.toNat:Int) (show (0:Int)<n by omega)
    have h6:(x.toNat:Int)%n≤(x.toNat:Int):=by
     obtain⟨N,rfl⟩:=Int.eq_ofNat_of_zero_le (show 0≤n by omega)
     rw[←Int.natCast_emod]
     have:=Nat.mod_le x.toNat N
     omega
    have:=h1.out
    omega)
   have hxw:IntKind.i64.wrap (x.toNat:Int)=(x.toNat:Int):=IntWalk.i64_in _ (by have:=h1.out;omega)
   by_cases hcl:cl=1
   ·subst hcl
    obtain rfl:l=[]:=List.length_eq_zero_iff.1 (by omega)
    go_wp2_with (refine aC rfl _ _ _ rfl b 0 _ [.slice (some ⟨bl,ol,none⟩) 0 0] rfl rfl rfl _ _ hblk (by show 0+1≤13;omega) (by kernel_rfl) (fun u hu=>by cases List.mem_singleton.1 hu;rfl) ?_)
    intro w1 hb1 hg1
    clear hc hcb
    go_wp2
    go_ret
    have hs:lX w (some ⟨bl,ol,none⟩) 0 0 (([]:List UInt8).map kT):=⟨Nat.le_refl _,Nat.zero_le _,fun e=>(by cases e),cZ.nil⟩
    exact⟨_,some ⟨bl,ol,none⟩,0,[],rfl,h'.out.putL hs (fun a e _=>by cases e;exact hra'.out _ rfl (by simp)) hb1 hg1,(MS.refl w b _).put hg1 (.inl rfl) fun x hx => .inl hx,hx0.out,fun e=>(by cases e)⟩
   ·go_wp2_with (refine aC rfl _ _ _ rfl b 0 _ [.slice (some ⟨bl,ol+1,none⟩) l.length (cl-1)] rfl rfl rfl _ _ hblk (by show 0+1≤13;omega) (by kernel_rfl) (fun u hu=>by cases List.mem_singleton.1 hu;rfl) ?_)
    intro w1 hb1 hg1
    clear hc hcb
    go_wp2
    go_ret
    have hs:lX w (some ⟨bl,ol+1,none⟩) (cl-1) l.length (l.map kT):=⟨by omega,by have:=hrm.out;omega,fun e=>(by cases e),hrd'.out⟩
    exact⟨_,some ⟨bl,ol+1,none⟩,cl-1,l,rfl,h'.out.putL hs (fun a e _=>by cases e;exact hra'.out ⟨bl,ol,none⟩ rfl (by simp)) hb1 hg1,(MS.refl w b _).put hg1 (.inl rfl) fun x hx => .inl hx,hx0.out,fun e=>(by cases e)⟩
def Nk (S:MW) (B b:Nat) (w:World) (r:Ending) (w' : World):Prop:=∃P a c l,r = .returned (.agg (dW P))∧dm w' B b (S.lst a c l)∧MS w b S w' (S.lst a c l)
theorem pE (S:MW) (B b:Nat) (w:World) (h:dm w B b S) :
  Calls Tryz.prog 33 #[.pointer (some ⟨b,0,none⟩)] w (Nk S B b w):=by
 have hBs:=Lib.hid h.bs
 go_enter Tryz.func33,Tryz.ntmps33
 go_upto_region 3 with (fail)
 refine mg (fun W=>Code.wp _ _ _ _ W) fun w1 hb1 bx1 rx1 hs1 => ?_
 have h1:=h.below hb1
 have s1:=(MS.refl w b S).below hb1
 have hn0:=Lib.hid (h.new (Nat.le_refl _))
 have hn1:=Lib.hid (h.new (Nat.le_succ _))
 clear h
 go_loopw [5] (fun k wr => ∃(q:Nat) (P:Page) (a:Option Addr) (c:Nat) (l:List UInt8),q≤8∧k = .int .i64 q∧dm wr B b (S.lst a c l)∧MS w b S wr (S.lst a c l)∧aF wr w.heap.size (dW zPg) 79∧aF wr (w.heap.size+1) (dW P) 79) (fun k _=>8-(intOf k).toNat)
 case atStart=>exact⟨0,zPg,S.al,S.cl,S.l,Nat.zero_le _,rfl,h1,s1,bx1,rx1⟩
 case round=>
  clear h1 s1 bx1 rx1 hb1 hs1
  obtain⟨q,P,a,c,l,hq,rfl,hm,hs,bx,rx⟩:=hrel
  have hsz:w.heap.size+2≤wr.heap.size:=rx.lt
  by_cases hq8:q<8
  ·have hqi:(q:Int)<8:=by omega
   go_wp2_with fail
   refine (dH _ 4 B b _ hm (by omega)).mono ?_
   rintro r w2 ⟨x,a2,c2,l2,rfl,hm2,hs2,hx,_⟩
   rw[jN] at hm2 hs2
   have bx2:=hs2.blkN bx hn0.out
   have rx2:=hs2.blkN rx hn1.out
   have hst:=hs.trans hs2
   obtain⟨x,rfl⟩:∃y:UInt8,x=(y.toNat:Int):=⟨UInt8.ofNat x.toNat,by rw[UInt8.toNat_ofNat'];omega⟩
   have hx2:((x.toNat:Nat):Int)<256:=hx.2.1
   clear hm hs bx rx hs2 hx
   go_wp2_with (refine aC rfl _ _ _ rfl (w.heap.size+1) q _ [.int .u8 x.toNat] rfl rfl rfl _ _ rx2 (by show q+1≤8;omega) (by kernel_rfl) (fun u hu=>by cases List.mem_singleton.1 hu;rfl) ?_)
   intro w3 rx3 hg3
   rw[jv,vM _ q hq8] at rx3
   have hm3:=hm2.locT rx2 (by decide) hn1.out (by have:=hBs.out;omega) hg3
   have hs3:=hst.loc hg3 (Nat.le_succ _)
   have bx3:=bx2.grown hg3 (fun e=>by have:=Option.some.inj e;omega)
   clear hm2 hst bx2 rx2 hg3
   go_wp2
   go_roundw
   case rel=>exact⟨q+1,_,a2,c2,l2,by omega,by go_num,hm3,hs3,bx3,rx3⟩
   case measure=>simp[intOf];omega
  ·have hqi:¬(q:Int)<8:=by omega
   go_wp2_with (first | (refine ay _ _ rfl (w.heap.size+1) 0 rfl rfl _ rx.rd _ Tryz.underlying79 rfl psize ?_) | (refine az rfl _ _ _ rfl w.heap.size (dW P) rfl rfl _ _ bx rfl psize (eD _) ?_))
   intro w3 bx3 hg3
   go_wp2
   refine bodyPost_ret (v:=.agg (dW P)) (dw Tryz.results33 _ _ w.heap.size _ _ _ rfl bx3 Tryz.underlying79 rfl psize) rfl ?_
   exact⟨P,a,c,l,rfl,hm.locT bx (by decide) hn0.out (by have:=hBs.out;omega) hg3,hs.loc hg3 (Nat.le_refl _)⟩
def MW.frs (S:MW) (fs:List Fr):MW:={ S with H:={ S.H with m:=⟨fs,S.H.m.hand⟩ } }
def Mq (S:MW) (f:Fr) (B b:Nat) (w:World) (r:Ending) (w' : World):Prop:=∃x a c l fs,r = .returned (.int .i64 x)∧dm w' B b ((S.lst a c l).frs fs)∧MS w b S w' ((S.lst a c l).frs fs) ∧
   ((x = -1∧fs=S.H.m.fs)∨∃j:Nat,x=j∧j<S.H.m.fs.length∧(bB S.H.ma j).r=0∧fs=S.H.m.fs.set j f)
theorem wJ (S:MW) (f:Fr) (B b:Nat) (w:World) (h:dm w B b S) (hz:S.H.m.fs.length≤1000) :
  Calls Tryz.prog 106 #[.pointer (some ⟨b,0,none⟩),.agg (qi f)] w (Mq S f B b w):=by
 go_enter Tryz.func106,Tryz.ntmps106
 go_upto_region 1 with (fail)
 refine fo (fun W=>Code.wp _ _ _ _ W) fun w1 hb1 bx1 hs1 => ?_
 have h1:=h.below hb1
 have s1:=(MS.refl w b S).below hb1
 have hn0:=Lib.hid (h.new (Nat.le_refl _))
 have hBs:=Lib.hid h.bs
 have hc:=h1.blk.cell
 unfold eP at hc
 clear h hb1
 go_wp2_with fail
 refine (dH _ _ B b _ h1 (by omega)).mono ?_
 rintro r w2 ⟨x,a2,c2,l2,rfl,hm2,hs2,hx,_⟩
 have bx2:=hs2.blkN bx1 hn0.out
 have hst:=s1.trans hs2
 clear h1 s1 hc hs2 bx1 hs1
 go_upto_region 4 with (fail)
 generalize hnn:S.H.m.fs.length=n at *
 go_loopw [20] (fun k wr => ∃q:Nat,q≤n∧k = .int .i64 q∧wr=w2) (fun k _=>n-(intOf k).toNat)
 case atStart=>exact⟨0,Nat.zero_le _,rfl,rfl⟩
 case round=>
  obtain⟨q,hq,rfl,rfl⟩:=hrel
  have hc:=hm2.blk.cell
  unfold eP at hc
  dsimp only[MW.lst] at hc
  rw[hnn] at hc
  by_cases hqn:q<n
  ·have hqi:(q:Int)<(n:Int):=by omega
   obtain⟨X,rfl⟩:=Int.eq_ofNat_of_zero_le hx.1
   have hx1:(X:Int)<256:=hx.2.1
   obtain⟨j,hjn,hj⟩:∃j:Nat,j<n∧((X:Int)+(q:Int))%(n:Int)=j:=⟨(X+q)%n,Nat.mod_lt _ (by omega),by rw[←Int.natCast_add,←Int.natCast_emod]⟩
   have hji:(j:Int)<(n:Int):=by omega
   obtain⟨g,off,cap,cur,hv,hgB,hg,hgs,hgc,hgw⟩:=hm2.ma.fr.put eT (by decide) j (by show j<S.H.m.fs.length;omega)
   have haf:S.H.af=some ⟨g,off,none⟩:=(Value.slice.inj hv).1
   rw[haf] at hc
   have c8:wr.cell? ⟨g,off+j*13+8,none⟩=some (.int .i64 (S.H.m.fs[j]'(by omega)).r):=hgc 8 _ rfl
   have hfj:Hid (bB S.H.ma j=S.H.m.fs[j]'(by omega)):=Lib.hid (by
    unfold bB
    show S.H.m.fs.getD j fr0=_
    rw[List.getD_eq_getElem?_getD,List.getElem?_eq_getElem (by omega)];rfl)
   clear hv
   have hgw':=Lib.hid hgw
   have hgc':=Lib.hid hgc
   clear hgw hgc
   generalize S.H.m.fs[j]'(by omega)=Y at c8 hfj
   by_cases hr:Y.r=0
   ·rw[hr] at c8
    have hne:g≠w.heap.size:=fun e=>hn0.out (.inr (by rw[←e];simp[dZ,haf,oB];left;rfl))
    go_upto_region 8 with (fail)
    refine aG 9 [_,_,_,_,_,_,.v (.int .i64 (j:Int)),_,_] (Gk rfl (Gk rfl (Gf b 1 rfl rfl (Gf b 1 rfl rfl (Gf b 1 rfl rfl (Gl hm2.blk (V:=.slice (some ⟨g,off,none⟩) n S.H.cf) (by simp[eP,MW.lst,haf,hnn]) rfl rfl rfl rfl (ag ?_ (Gr (.agg #[.int .u8 f.p[0].toNat,.int .u8 f.p[1].toNat,.int .u8 f.p[2].toNat,.int .u8 f.p[3].toNat,.int .u8 f.p[4].toNat,.int .u8 f.p[5].toNat,.int .u8 f.p[6].toNat,.int .u8 f.p[7].toNat,.int .i64 f.r,.bool f.u,.bool f.d,.int .i64 f.f,.int .i64 f.i]) (fun ρ y W hb hKn=>(bV rfl (aA rfl hKn) (bQ (bx2.ext hb) 0 13) Tryz.underlying81 rfl (by kernel_rfl))) rfl rfl (Gr (.pointer (some ⟨g,off+j*13,none⟩)) (fun ρ y W hb hKn=>(aU rfl (aA rfl hKn) (aA rfl hKn) hjn Tryz.underlying26 frame_size)) rfl rfl (aB)))))))))) (fun _=>rfl) rfl ?_
    ·intro ρ y W hw hn hb hd;have E8:ρ (.tmp 8) = .int .i64 (j:Int):=(hn (.tmp 8) rfl).trans (by show Value.int IntKind.i64 (((X:Int)+(q:Int))%(n:Int))=_;rw[hj])
     refine aj (.int .i64 (j:Int)) (ah rfl) (run_move (.inl rfl) E8) rfl
    intro y W3 hbW3 _
    have hm3:=hm2.below hbW3
    have hg3:=hg.ext hbW3
    have hs3:=hst.below hbW3
    clear hm2 bx2 hst hbW3 hg hc c8
    go_wp2_with (refine aC rfl _ _ _ rfl g (off+j*13) _ (nE f) rfl rfl rfl _ _ hg3 (by rw[eT];exact hgs) (by kernel_rfl) (bv (mH f)) ?_)
    intro w4 h4 hg4
    have ho4:=hgw'.out _ f h4
    have hm4:=hm3.putF hg3 hgB hg4 (fs:=S.H.m.fs.set j f) (by simp[MW.lst]) (by simpa[MW.lst] using ho4)
    have hs4:=hs3.put hg4 (H':=(S.lst a2 c2 l2).frs (S.H.m.fs.set j f)) (.inr (by simp[dZ,MW.lst,haf,oB];left;rfl)) (fun x hx => .inl hx)
    clear hm3 hs3 hg3 hg4 h4 ho4
    go_wp2
    go_ret
    exact⟨j,a2,c2,l2,_,rfl,hm4,hs4,.inr ⟨j,rfl,by omega,by rw[hfj.out];exact hr,rfl⟩⟩
   ·go_wp2
    go_roundw
    case rel=>exact⟨q+1,by omega,by go_num,by first | rfl | trivial⟩
    case measure=>simp[intOf];omega
  ·have hqi:¬(q:Int)<(n:Int):=by omega
   go_wp2
   go_ret
   exact⟨-1,a2,c2,l2,S.H.m.fs,rfl,hm2,hst,.inl ⟨rfl,rfl⟩⟩
def qB (f s b:Int):Ma:=if (0≤f∧f≤40)∧(0≤s∧s≤60)∧(0≤b∧b≤80) then ⟨GG f,Ia s,zC s,zC b,⟨[],b⟩,[],[⟨true,[],zTb⟩]⟩ else zMa
def noH:MH:=⟨none,0,noM,none,0,[],none,0,none,0,⟨[],[]⟩,none,0,none,0,⟨[],[]⟩,none,0,[],0,none,0,[],none,0,[]⟩
theorem Le (w:World) (B:Nat):qK w B noH:=
 ⟨Own.nil _ _ _ _,Own.nil _ _ _ _,jc.nil _ _,jc.nil _ _,⟨Own.nil _ _ _ _,fun i p hp=>by simp[noH] at hp,fun i j p q _ hp=>by simp[noH] at hp⟩,Own.nil _ _ _ _,Own.nil _ _ _ _,fun p hp=>by simp[noH] at hp,by decide⟩
def nTs:Vector Value 8:=⟨#[.slice none 0 0,.slice none 0 0,.slice none 0 0,.slice none 0 0,.slice none 0 0,.slice none 0 0,.slice none 0 0,.slice none 0 0],rfl⟩
theorem Jt {w:World} {b o:Nat} {xs ys:List Value} (h:cZ w (some ⟨b,o,none⟩) (xs++ys)):cZ w (some ⟨b,o,none⟩) xs:=fun i u hi=>h i u (by
 rw[List.getElem?_append_left (List.getElem?_eq_some_iff.1 hi).1];exact hi)
theorem JF (x:Fr):∃ys,nE x=vJ x.p++ys:=⟨_,rfl⟩
theorem Gu {l:List Cc} {q:Nat} {c:Cc} {f i:Int} (hc:l[q]?=some c) (hno:∀d∈l.take q,¬(d.f=f∧d.i=i)) (hy:c.f=f∧c.i=i):l.find? (fun c=>decide (c.f=f)&&decide (c.i=i))=some c:=by
 rw[←List.take_append_drop q l,List.find?_append,List.find?_eq_none.2 (fun d hd=>by
  have:=hno d hd
  simp only[Bool.and_eq_true,decide_eq_true_eq]
  exact this)]
 rw[List.drop_eq_getElem_cons (List.getElem?_eq_some_iff.1 hc).1,(List.getElem?_eq_some_iff.1 hc).2,List.find?_cons,hy.1,hy.2]
 simp
theorem xz {l:List Cc} {f i:Int} (hno:∀d∈l,¬(d.f=f∧d.i=i)):l.find? (fun c=>decide (c.f=f)&&decide (c.i=i))=none:=
 List.find?_eq_none.2 (fun d hd=>by
  have:=hno d hd
  simp only[Bool.and_eq_true,decide_eq_true_eq]
  exact this)
theorem nQ (H:MH) (f i:Int) (w:World) (h:rC w H) (hz:H.ca.length≤1000∧∀f∈H.ma.st.fs,f.b.length≤1000) (hck:∀c∈H.ca,0≤c.k∧c.k<H.m.fs.length) (hf:0≤f∧f<H.fi.length) (hi:0≤i∧i<(aV H.ma.st f).b.length) :
  Calls Tryz.prog 54 #[.agg (bR H),.int .i64 f,.int .i64 i] w fun r w'=>r = .returned (.agg (dW (aY H.ma f i)))∧Below w.heap.size w w':=by
 have z7:H.ca.length≤1000:=hz.1
 go_enter Tryz.func54,Tryz.ntmps54
 go_upto_region 1 with (fail)
 refine mg (fun W=>Code.wp _ _ _ _ W) fun w1 hb0 bx1 rx1 hs1 => ?_
 clear hs1
 have hcb:=bx1.cell
 unfold bR at hcb
 go_upto_region 2 with (fail)
 clear hcb
 go_loopw [16] (fun k wr => ∃q:Nat,q≤H.ca.length∧k = .int .i64 q∧Below w.heap.size w wr∧aF wr w.heap.size (bR H) 41∧aF wr (w.heap.size+1) (dW zPg) 79∧Hid (∀d∈H.ca.take q,¬(d.f=f∧d.i=i))) (fun k _=>H.ca.length-(intOf k).toNat)
 case atStart=>exact⟨0,Nat.zero_le _,rfl,hb0,bx1,rx1,Lib.hid (by simp)⟩
 case round=>
  clear hb0 bx1 rx1
  obtain⟨q,hq,rfl,hbr,bx,rx,hno⟩:=hrel
  by_cases hql:q<H.ca.length
  ·obtain⟨bc,oc,hca,hrd⟩:=vk (h.below hbr).ca.rd q hql
   obtain⟨c,hc⟩:∃c,H.ca[q]?=some c:=⟨_,List.getElem?_eq_getElem hql⟩
   rw[show H.ca[q]=c from (List.getElem?_eq_some_iff.1 hc).2] at hrd
   have hqi:(q:Int)<(H.ca.length:Int):=by omega
   have hck1:=hck c (List.mem_of_getElem? hc)
   have hc':=Lib.hid hc
   clear hc
   rw[hca]
   go_wp2_with (first | (refine ay _ _ rfl bc (oc+q*3) rfl rfl _ hrd _ Tryz.underlying106 rfl cached_size ?_) | (refine aH rfl _ _ _ rfl (sZ c) rfl rfl rfl cached_size (nz c) ?_))
   intro w3 hb3 cx3
   have hbr3:=ae hbr hb3
   have bx3:=bx.ext hb3
   have rx3:=rx.ext hb3
   have hcx:=cx3.cell
   have hl3:=rx3.lt
   clear hbr bx rx hb3 hrd
   unfold sZ at hcx
   by_cases hy:c.f=f∧c.i=i
   ·obtain⟨hy1,hy2⟩:=hy
    obtain⟨k,hk⟩:=Int.eq_ofNat_of_zero_le hck1.1
    have hkl:k<H.m.fs.length:=by have:=hck1.2;omega
    obtain⟨bf,of,haf,hfrd⟩:=gB eT (by decide) (h.below hbr3).fr.rd k hkl
    have hki:(k:Int)<(H.m.fs.length:Int):=by omega
    have hcont:Hid (aY H.ma f i=(H.m.fs[k]).p):=Lib.hid (by
     unfold aY
     rw[show H.ma.ca.find? (fun c=>decide (c.f=f)&&decide (c.i=i))=some c from Gu hc'.out hno.out ⟨hy1,hy2⟩]
     show (H.m.fs.getD c.k.toNat fr0).p=_
     rw[hk,List.getD_eq_getElem?_getD,show ((k:Nat):Int).toNat=k from rfl,List.getElem?_eq_getElem hkl];rfl)
    generalize H.m.fs[k]=X at hfrd hcont
    obtain⟨ys,hys⟩:=JF X
    rw[hys] at hfrd
    have hprd:=Jt hfrd
    have hcm:w3.cell? ⟨w.heap.size,0,none⟩=some (.slice (some ⟨bf,of,none⟩) H.m.fs.length H.cf):=by rw[bx3.cell,←haf];rfl
    rw[hy1,hy2,hk] at hcx
    clear hfrd hys
    go_wp2_with (first | (refine ay _ _ rfl bf (of+k*13) rfl rfl _ hprd _ Tryz.underlying79 rfl psize ?_) | (refine az rfl _ _ _ rfl (w.heap.size+1) (dW X.p) rfl rfl _ _ rx3 rfl psize (eD X.p) ?_))
    intro w4 rx4 hg4
    have hb4:=hbr3.grown hg4 hbr3.size (fun k hk=>by cases hk;omega)
    clear hcx hcm
    go_wp2
    refine bodyPost_ret (v:=.agg (dW X.p)) (dw Tryz.results54 _ _ (w.heap.size+1) _ _ _ rfl rx4 Tryz.underlying79 rfl psize) rfl ?_
    exact⟨by rw[hcont.out],hb4⟩
   ·have hno' : Hid (∀d∈H.ca.take (q+1),¬(d.f=f∧d.i=i)):=Lib.hid fun d hd=>by
     rw[take_at hc'.out] at hd
     rcases List.mem_append.1 hd with hd|hd
     ·exact hno.out d hd
     ·rw[List.mem_singleton.1 hd];exact hy
    by_cases hy1:c.f=f
    ·have hy2:¬c.i=i:=fun e=>hy ⟨hy1,e⟩
     clear hy
     go_wp2
     go_roundw
     case rel=>exact⟨q+1,by omega,by go_num,hbr3,bx3,rx3,hno'⟩
     case measure=>simp[intOf];omega
    ·clear hy
     go_wp2
     go_roundw
     case rel=>exact⟨q+1,by omega,by go_num,hbr3,bx3,rx3,hno'⟩
     case measure=>simp[intOf];omega
  ·have hqi:¬(q:Int)<(H.ca.length:Int):=by omega
   rw[List.take_of_length_le (by omega)] at hno
   have hcx:=bx.cell
   unfold bR at hcx
   obtain⟨F,rfl⟩:=Int.eq_ofNat_of_zero_le hf.1
   obtain⟨I,rfl⟩:=Int.eq_ofNat_of_zero_le hi.1
   have hFl:F<H.fi.length:=by omega
   obtain⟨bf,of,hai,hrd⟩:=gB kv (by decide) h.st.rd F hFl
   obtain⟨p,hp⟩:∃p,H.fi[F]?=some p:=⟨_,List.getElem?_eq_getElem hFl⟩
   rw[show H.fi[F]=p from (List.getElem?_eq_some_iff.1 hp).2] at hrd
   have hrd0:=Lib.hid hrd
   have hrd:=hrd.below hbr
   have hgood:=(h.below hbr).st.good p (List.mem_of_getElem? hp)
   have hfa:aV H.ma.st (F:Int)=p.fi:=by
    unfold aV
    rw[if_pos (by omega)]
    show (H.fi.map PF.fi).getD F ⟨0,[]⟩=p.fi
    rw[List.getD_eq_getElem?_getD,List.getElem?_map,hp];rfl
   rw[hfa] at hi
   have hIl:I<p.l.length:=by have h2:=hi.2;have e:p.fi.b.length=p.l.length:=rfl;omega
   have hpz:p.l.length≤1000:=hz.2 p.fi (List.mem_map.2 ⟨p,List.mem_of_getElem? hp,rfl⟩)
   obtain⟨bb,ob,hpa,hcb⟩:=fZ hgood.rd I hIl
   obtain⟨x,hX⟩:∃x,p.l[I]?=some x:=⟨_,List.getElem?_eq_getElem hIl⟩
   rw[show p.l[I]=x from (List.getElem?_eq_some_iff.1 hX).2] at hcb
   have hba:pW H.ma.st (F:Int) (I:Int)=x:=by
    unfold pW
    rw[hfa]
    show p.l.getD I 0=x
    rw[List.getD_eq_getElem?_getD,hX];rfl
   have rc:∀j u,(pG p)[j]?=some u→wr.cell? ⟨bf,of+F*2+j,none⟩=some u:=fun j u hj=>by
    obtain⟨b',o',e,hcc⟩:=hrd j u hj
    cases e
    exact hcc
   have rc0:wr.cell? ⟨bf,of+F*2,none⟩=some (.int .i64 p.n):=rc 0 _ rfl
   have rc1:wr.cell? ⟨bf,of+F*2+1,none⟩=some (.slice p.a p.l.length p.c):=rc 1 _ rfl
   have hcont:Hid (aY H.ma F I=if 0≤x then dS (iJ H.dk x) (p.n-(I:Int)*8) else zPg):=Lib.hid (by
    unfold aY
    rw[show H.ma.ca.find? (fun c=>decide (c.f=(F:Int))&&decide (c.i=(I:Int)))=none from xz hno.out,hba,hfa]
    rfl)
   have hFi:(F:Int)<(H.fi.length:Int):=by omega
   have hIi:(I:Int)<(p.l.length:Int):=by omega
   rw[hpa] at rc1
   rw[hai] at hcx
   have hrd':=Lib.hid hrd
   have hai':=Lib.hid hai
   have hpa':=Lib.hid hpa
   have hfi':=Lib.hid hfa
   clear rc hrd hai hpa hfa hp hX hba hi hgood
   by_cases hx:x<0
   ·go_wp2_with (refine az rfl _ _ _ rfl (w.heap.size+1) (dW zPg) rfl rfl _ _ rx rfl psize (eD _) ?_)
    intro w4 rx4 hg4
    have hb4:=hbr.grown hg4 hbr.size (fun k hk=>by cases hk;omega)
    clear hcx
    go_wp2
    refine bodyPost_ret (v:=.agg (dW zPg)) (dw Tryz.results54 _ _ (w.heap.size+1) _ _ _ rfl rx4 Tryz.underlying79 rfl psize) rfl ?_
    exact⟨by rw[hcont.out,if_neg (by omega)],hb4⟩
   ·go_wp2_with (refine ay _ _ rfl w.heap.size 5 rfl rfl _ (bQ bx 5 2) _ Tryz.underlying34 rfl disk_size ?_)
    refine (yI H.dk x _ _ _ _ _ (h.below hbr).dk).mono ?_
    rintro r w4 ⟨rfl,hb4⟩
    have hfr:=aF.new w4 (dW zPg) 79
    have hba:Below w4.heap.size w4 (w4.alloc (.cells (dW zPg) 79)):=(Below.refl _ _).alloc (Nat.le_refl _) _
    have hl4:=hb4.size
    have hlr:=rx.lt
    have bx5:=(bx.ext hb4).ext hba
    have rx5:=(rx.ext hb4).ext hba
    have hbr5:=ae (ae hbr hb4) hba
    clear hcx hcb rc0 rc1 bx rx hbr
    go_wp2_with (refine az rfl _ _ _ rfl w4.heap.size (dW (iJ H.dk x)) rfl rfl _ _ hfr rfl psize (eD _) ?_)
    intro w5 px6 hg5
    have hb6:=hbr5.grown hg5 hbr5.size (fun k hk=>by cases hk;omega)
    have bx6:=bx5.grown hg5 (fun e=>by have:=Option.some.inj e;omega)
    have rx6:=rx5.grown hg5 (fun e=>by have:=Option.some.inj e;omega)
    clear hfr hba bx5 rx5 hbr5 hg5 hb4
    generalize iJ H.dk x=P at px6 hcont
    generalize hp4:w4.heap.size=p4 at *
    clear hp4
    go_upto_region 12 with (fail)
    go_loopw [59] (fun j wr => ∃k:Nat,k≤8∧j = .int .i64 k∧Below w.heap.size w wr∧aF wr w.heap.size (bR H) 41∧aF wr (w.heap.size+1) (dW zPg) 79∧aF wr p4 (dW (fA P (p.n-(I:Int)*8) k)) 79) (fun j _=>8-(intOf j).toNat)
    case atStart=>exact⟨0,by omega,rfl,hb6,bx6,rx6,by rw[show fA P (p.n-(I:Int)*8) 0=P from by ext j hj;simp[fA]];exact px6⟩
    case round=>
     clear hb6 bx6 rx6 px6
     obtain⟨k,hk,rfl,hbr,bx,rx,px⟩:=hrel
     by_cases hk8:k<8
     ·have hki:(k:Int)<8:=by omega
      have hcx:=bx.cell
      unfold bR at hcx
      rw[hai'.out] at hcx
      have rc0:wr.cell? ⟨bf,of+F*2,none⟩=some (.int .i64 p.n):=by
       obtain⟨b',o',e,hcc⟩:=(hrd0.out.below hbr) 0 _ rfl
       cases e
       exact hcc
      have hw1:IntKind.i64.wrap (8*(I:Int))=8*(I:Int):=IntWalk.i64_in _ (by omega)
      have hw2:IntKind.i64.wrap (8*(I:Int)+(k:Int))=8*(I:Int)+(k:Int):=IntWalk.i64_in _ (by omega)
      by_cases hge:p.n≤8*(I:Int)+k
      ·have hset:Hid ((dW (fA P (p.n-(I:Int)*8) k)).setIfInBounds k (.int .u8 0)=dW (fA P (p.n-(I:Int)*8) (k+1))):=Lib.hid (by
        rw[←uw P _ k hk8 (by omega)];exact vM _ k hk8 0)
       generalize hT:fA P (p.n-(I:Int)*8) k=T at px hset
       clear hT
       go_wp2_with (refine aC rfl _ _ _ rfl p4 k _ [.int .u8 0] rfl rfl rfl _ _ px (by show k+1≤8;omega) (by kernel_rfl) (fun u hu=>by cases List.mem_singleton.1 hu;rfl) ?_)
       intro w7 px7 hg7
       rw[jv,hset.out] at px7
       have hbr7:=hbr.grown hg7 hbr.size (fun k hk=>by cases hk;omega)
       have bx7:=bx.grown hg7 (fun e=>by have:=Option.some.inj e;omega)
       have rx7:=rx.grown hg7 (fun e=>by have:=Option.some.inj e;omega)
       clear hbr bx rx px hg7 hcx rc0
       go_wp2
       go_roundw
       case rel=>exact⟨k+1,by omega,by go_num,hbr7,bx7,rx7,px7⟩
       case measure=>simp[intOf];omega
      ·have hset:fA P (p.n-(I:Int)*8) k=fA P (p.n-(I:Int)*8) (k+1):=by
        ext j hj
        simp only[fA,Vector.getElem_ofFn]
        by_cases e:p.n-(I:Int)*8≤(j:Int)
        ·rw[if_neg (by omega),if_neg (by omega)]
        ·rw[if_neg (by omega),if_neg (by omega)]
       rw[hset] at px
       clear hset
       go_wp2
       go_roundw
       case rel=>exact⟨k+1,by omega,by go_num,hbr,bx,rx,px⟩
       case measure=>simp[intOf];omega
     ·have hki:¬(k:Int)<8:=by omega
      rw[tu _ _ k (by omega)] at px
      have hcont' : Hid (aY H.ma F I=dS P (p.n-(I:Int)*8)):=Lib.hid (by rw[hcont.out,if_pos (by omega)])
      generalize dS P (p.n-(I:Int)*8)=C at px hcont'
      go_wp2_with (first | (refine ay _ _ rfl p4 0 rfl rfl _ px.rd _ Tryz.underlying79 rfl psize ?_) | (refine az rfl _ _ _ rfl (w.heap.size+1) (dW C) rfl rfl _ _ rx rfl psize (eD _) ?_))
      intro w7 rx7 hg7
      have hb7:=hbr.grown hg7 hbr.size (fun k hk=>by cases hk;omega)
      go_wp2
      refine bodyPost_ret (v:=.agg (dW C)) (dw Tryz.results54 _ _ (w.heap.size+1) _ _ _ rfl rx7 Tryz.underlying79 rfl psize) rfl ?_
      exact⟨by rw[hcont'.out],hb7⟩
theorem srt_len:∀ {l:List Nat} {a n:Nat},l.Pairwise (· < ·)→(∀x∈l,a≤x∧x<n)→l.length≤n-a
 | [],_,_,_,_=>by simp
 | x::l,a,n,hs,h=>by
  obtain⟨h1,h2⟩:=List.pairwise_cons.1 hs
  have hx:=h x List.mem_cons_self
  have:=srt_len (a:=x+1) (n:=n) h2 fun y hy=>⟨h1 y hy,(h y (List.mem_cons_of_mem _ hy)).2⟩
  rw[List.length_cons]
  omega
theorem Iw {m:Ma} (h:rT m) (hs:aR m.st=0):m.ca.length≤60:=by
 have hl:∀c∈m.ca,0≤c.f∧c.f<5∧0≤c.i∧c.i<12:=fun c hc=>by
  have h1:=h.file c hc
  have h2:=zY hs h1
  have h3:=h1.1;have h4:=h1.2
  omega
 have key:=srt_len (l:=m.ca.map fun c=>(12*c.f+c.i).toNat) (a:=0) (n:=60) ?_ fun x hx => ?_
 ·simpa using key
 ·rw[List.pairwise_map]
  refine List.Pairwise.imp_of_mem ?_ h.srt
  intro a b ha hb hab
  have h1:=hl a ha
  have h2:=hl b hb
  unfold xP at hab
  show (12*a.f+a.i).toNat<(12*b.f+b.i).toNat
  omega
 ·obtain⟨c,hc,rfl⟩:=List.mem_map.1 hx
  have h1:=hl c hc
  show 0≤(12*c.f+c.i).toNat∧(12*c.f+c.i).toNat<60
  omega
theorem qm {s:St} (hs:aR s=0):∀f∈s.fs,f.b.length≤12:=fun f hf=>by
 obtain⟨k,hk,rfl⟩:=List.mem_iff_getElem.1 hf
 have h1:=vL hs (f:=(k:Int)) ⟨by omega,by omega⟩
 have hfa:aV s (k:Int)=s.fs[k]:=jZ (List.getElem?_eq_getElem hk)
 rw[hfa] at h1
 obtain⟨a1,a2,a3,_⟩:=h1
 have e:(s.fs[k].b.length:Int)≤12:=by
  rw[a3];unfold dA
  split<;>omega
 omega
theorem rZ {P:Program} {ρ:Operand→Value} {o:Oper} {w:World} (s x:Operand) (t:TypeId) (ho:o.op=Op.call { callee:=Callee.builtin Builtin.append,args:=#[s,x],argTypes:=#[t,t] })
  (B:Nat) (e:TypeId) (z:Value) (size bytes:Nat) (h1:P.underlying t=some (.slice e)) (h2:(P.info? e).map (fun i=>(i.zero,i.size,i.bytes))=some (some z,size,bytes)) (h6:z.cells.size=size) (h7:0<size)
  (g:Nat) (hs:ρ s = .slice (some ⟨g,0,none⟩) 0 0) (hown:Own w B e size (.slice (some ⟨g,0,none⟩) 0 0) 0 [])
  (ao:Option Addr) (m c:Nat) (news:List Value) (hx:ρ x = .slice ao m c) (hnone:ao=none→c=0) (hmc:m≤c) (hn:news.length=m*size) (hrd:cZ w ao news)
  (b1:m≤maxLen) (b2:m*bytes≤140737488355328) (hB:B≤w.heap.size) :
  ∃v' w',(execOp ρ o).run P w = .ok (.value v') w'∧Below w.heap.size w w'∧Own w' B e size v' m news:=by
 obtain⟨ii,hi,hz,hsz,hby⟩:=info_parts h2
 rcases Nat.eq_zero_or_pos m with h0|h0
 ·subst h0
  obtain rfl:news=[]:=List.eq_nil_of_length_eq_zero (by simpa using hn)
  refine⟨.slice (some ⟨g,0,none⟩) 0 0,w,?_,Below.refl _ _,hown⟩
  cases ao with
  | none=>simp[execOp,ho,resolve,invoke,builtin,hs,hx,Builtin.append_,run_underlying h1,Go.sizeOf,typeInfo,hi,Builtin.lenOf,Builtin.firstCells,storeCells,Result.andThen]
  | some ad=>simp[execOp,ho,resolve,invoke,builtin,hs,hx,Builtin.append_,run_underlying h1,Go.sizeOf,typeInfo,hi,Builtin.lenOf,Builtin.firstCells,storeCells,loadCells,loadCellsFrom,Result.andThen]
 ·obtain⟨b,off,rfl,hc⟩:=hrd.at (by rw[hn];exact Nat.mul_pos h0 h7)
  obtain⟨v',w',hr,how,hgr⟩:=run_append_arg_grows (P:=P) w t o.type e ii z size bytes h1 hi hz hsz hby h6 h7 ⟨g,0,none⟩ 0 0 [] (by simp) (fun j u h=>by simp at h) ⟨b,off,none⟩ m c news hn (fun j u hj=>by rw[Addr.add_lit];exact hc j u hj) (by omega) (by omega) (by rw[Nat.zero_add];exact b2)
  have ho' : Own w' B e size v' m news:=by
   have:=(Own.of_owns how).mono hB
   simpa using this
  refine⟨v',w',?_,fO hgr,ho'⟩
  simp[execOp,ho,resolve,invoke,builtin,hs,hx,hr,Result.andThen]
theorem dM {P:Program} {ops:Array Oper} {ρ:Operand→Value} {o:Oper} {w:World} {l:List iO} {i:Nat} {J:(Nat→Bool)→(Nat→Value)→World→Prop} {L:Nat→Bool} {y:Nat→Value} {D:Value→World→Prop} (hw:Region.wanted o (ed ρ ops)=true) (h:∃v' w',(execOp ρ o).run P w = .ok (.value v') w'∧D v' w')
  (hJ:∀v w',D v w'→J (bO L i) (cK y i v) w') (hR:∀v w',D v w'→rl l i v w') :
  if Region.wanted o (ed ρ ops)=true then cz P o ρ w (fun v w'=>J (bO L i) (cK y i v) w'∧rl l i v w') else J (bO L i) (cK y i undef) w∧rl l i undef w:=by
 obtain⟨v,w',h1,h2⟩:=h
 exact bL v hw h1 (hJ _ _ h2) (hR _ _ h2)
theorem AV {P:Program} {ops:Array Oper} {ρ:Operand→Value} {o:Oper} {w:World} {l:List iO} {i:Nat} {D:Value→Prop} (hw:Region.wanted o (ed ρ ops)=true) (h:∃v,(execOp ρ o).run P w = .ok (.value v) w∧D v) (hR:∀v,D v→rl l i v w) :
  if Region.wanted o (ed ρ ops)=true then cz P o ρ w (fun v w'=>Below w.heap.size w w'∧rl l i v w') else rl l i undef w:=by
 obtain⟨v,h1,h2⟩:=h
 exact aj v hw h1 (hR _ h2)
theorem yT {α:Type} (enc:α→List Value) (sz:Nat) (hsz:∀x,(enc x).length=sz):∀(l:List α) (k:Nat),(l.flatMap enc).take (k*sz)=(l.take k).flatMap enc
 | [],k=>by simp
 | x::l,0=>by simp
 | x::l,k+1=>by
  rw[List.flatMap_cons,List.take_succ_cons,List.flatMap_cons,Nat.succ_mul,Nat.add_comm,List.take_append,hsz,List.take_of_length_le (by rw[hsz];omega),Nat.add_sub_cancel_left,yT enc sz hsz l k]
theorem zh {α:Type} (enc:α→List Value) (sz:Nat) (hsz:∀x,(enc x).length=sz):∀(l:List α) (k:Nat),(l.flatMap enc).drop (k*sz)=(l.drop k).flatMap enc
 | [],k=>by simp
 | x::l,0=>by simp
 | x::l,k+1=>by
  rw[List.flatMap_cons,List.drop_succ_cons,Nat.succ_mul,Nat.add_comm,List.drop_append,hsz,List.drop_eq_nil_of_le (by rw[hsz];omega),List.nil_append,Nat.add_sub_cancel_left,zh enc sz hsz l k]
theorem uQ (l : List Cc) (c : Cc) (q : Nat) (hq : q ≤ l.length) : ((l.flatMap kS).take (q * 3) ++ kS c) ++ (l.flatMap kS).drop (q * 3) = (l.insertIdx q c).flatMap kS := by
  rw [yT kS 3 kr, zh kS 3 kr]
  have : ∀ (l : List Cc) (q : Nat), q ≤ l.length → l.insertIdx q c = l.take q ++ c :: l.drop q := by
    intro l
    induction l with
    | nil => intro q hq; obtain rfl : q = 0 := by simpa using hq
             rfl
    | cons x l ih => intro q hq; cases q with
      | zero => rfl
      | succ q => rw [List.insertIdx_succ_cons, ih q (by simpa using hq)]; rfl
  rw [this l q hq]
  simp [List.flatMap_append]
theorem lX.take {w:World} {a:Option Addr} {c n k sz:Nat} {vs:List Value} (h:lX w a c n vs) (hk:k≤n):lX w a c k (vs.take (k*sz)):=
 ⟨Nat.le_trans hk h.le,h.mx,h.nl,fun j u hj=>h.rd j u (by
  rw[List.getElem?_take] at hj
  split at hj
  ·exact hj
  ·cases hj)⟩
theorem BN {P:Program} {ρ:Operand→Value} {o:Oper} {W0 w:World} {t e:TypeId} {x i:Operand} {a:Option Addr} {n c k sz:Nat} {vs:List Value} (ho:o.op = .slice t x none (some i) none) (hx:ρ x = .slice a n c) (hy:ρ i = .int .i64 (k:Int)) (hk:k≤n)
  (hu:P.underlying t=some (.slice e)) (hs:(P.info? e).map (·.size)=some sz) (h:lX W0 a c n vs):(execOp ρ o).run P w = .ok (.value (.slice a k c)) w∧lX W0 a c k (vs.take (k*sz)):=by
 obtain⟨inf,hinf,hsz⟩:∃inf,P.info? e=some inf∧inf.size=sz:=by
  cases h:P.info? e with
  | none=>rw[h] at hs;cases hs
  | some inf=>rw[h] at hs;exact⟨inf,rfl,by simpa using hs⟩
 have hso:(Go.sizeOf e).run P w = .ok sz w:=by simp[Go.sizeOf,typeInfo,hinf,go_sem,hsz]
 have hle:=h.le
 refine⟨?_,Nat.le_trans hk h.le,h.mx,h.nl,fun j u hj=>h.rd j u (by
  rw[List.getElem?_take] at hj
  split at hj
  ·exact hj
  ·cases hj)⟩
 have hkc:(k:Int)≤(c:Int):=by omega
 cases a with
 | none=>
  have hc0:=h.nl rfl
  subst hc0
  obtain rfl:k=0:=by omega
  simp[execOp,go_sem,ho,hx,hy,hu,hso,hkc]
 | some ad=>simp[execOp,go_sem,ho,hx,hy,hu,hso,hkc]
theorem BD {P:Program} {ρ:Operand→Value} {o:Oper} {W0 w:World} {t e:TypeId} {x i:Operand} {a:Option Addr} {n c k sz:Nat} {vs:List Value} (ho:o.op = .slice t x (some i) none none) (hx:ρ x = .slice a n c) (hy:ρ i = .int .i64 (k:Int)) (hk:k≤n)
  (hu:P.underlying t=some (.slice e)) (hs:(P.info? e).map (·.size)=some sz) (hl:vs.length=n*sz) (h:lX W0 a c n vs):∃v,(execOp ρ o).run P w = .ok (.value v) w∧∃a' c',v = .slice a' (n-k) c'∧lX W0 a' c' (n-k) (vs.drop (k*sz)):=by
 obtain⟨inf,hinf,hsz⟩:∃inf,P.info? e=some inf∧inf.size=sz:=by
  cases h:P.info? e with
  | none=>rw[h] at hs;cases hs
  | some inf=>rw[h] at hs;exact⟨inf,rfl,by simpa using hs⟩
 have hso:(Go.sizeOf e).run P w = .ok sz w:=by simp[Go.sizeOf,typeInfo,hinf,go_sem,hsz]
 have hle:=h.le
 have hmx:=h.mx
 have hkn:(k:Int)≤(n:Int):=by omega
 have hnc:(n:Int)≤(c:Int):=by omega
 cases a with
 | none=>
  have hc0:=h.nl rfl
  subst hc0
  obtain rfl:n=0:=by omega
  obtain rfl:k=0:=by omega
  obtain rfl:vs=[]:=List.eq_nil_of_length_eq_zero (by simpa using hl)
  exact⟨.slice none 0 0,by simp[execOp,go_sem,ho,hx,hy,hu,hso],none,0,rfl,Nat.le_refl _,Nat.zero_le _,fun _=>rfl,by rw[List.drop_nil];exact cZ.nil⟩
 | some ad=>
  by_cases hc:k=c
  ·subst hc
   obtain rfl:k=n:=by omega
   refine⟨.slice (some ad) 0 0,by simp[execOp,go_sem,ho,hx,hy,hu,hso],some ad,0,by rw[Nat.sub_self],by omega,Nat.zero_le _,fun e=>(by cases e),?_⟩
   rw[List.drop_eq_nil_of_le (by omega)]
   exact cZ.nil
  ·refine⟨.slice (some (ad.add (k*sz))) (n-k) (c-k),?_,some (ad.add (k*sz)),c-k,rfl,by omega,by omega,fun e=>(by cases e),?_⟩
   ·have h1:k<c:=by omega
    simp[execOp,go_sem,ho,hx,hy,hu,hso,hkn,hnc,h1]
    exact fun e=>absurd e.symm hc
   ·intro i u hi
    rw[List.getElem?_drop] at hi
    obtain⟨b,off,e1,e2⟩:=h.rd _ _ hi
    cases e1
    exact⟨b,off+k*sz,by rw[Addr.add_lit],by rw[Nat.add_assoc];exact e2⟩
def qO (W0:World) (q:Nat) (l:List Cc) (c:Cc):(Nat→Bool)→(Nat→Value)→World→Prop:=fun L y W=>
 Below W0.heap.size W0 W∧(L 23=true→L 15=true)∧(L 15=true→L 9=true) ∧
 (L 1=true→L 9=false→∃g,y 1 = .slice (some ⟨g,0,none⟩) 0 0∧Own W W0.heap.size 106 3 (.slice (some ⟨g,0,none⟩) 0 0) 0 []) ∧
 (L 9=true→L 15=false→Own W W0.heap.size 106 3 (y 9) q ((l.flatMap kS).take (q*3))) ∧
 (L 14=true→L 15=false→∃a e,y 14 = .slice a 1 e∧lX W a e 1 (kS c)) ∧
 (L 15=true→L 23=false→Own W W0.heap.size 106 3 (y 15) (q+1) ((l.flatMap kS).take (q*3)++kS c)) ∧
 (L 23=true→Own W W0.heap.size 106 3 (y 23) (q+1+(l.length-q)) (((l.flatMap kS).take (q*3)++kS c)++(l.flatMap kS).drop (q*3)))
theorem bn {W0:World} {q:Nat} {l:List Cc} {c:Cc}:∀L y W W',Below W.heap.size W W'→qO W0 q l c L y W→qO W0 q l c L y W':=
 fun _ _ _ _ hb ⟨h1,h2,h3,h4,h5,h6,h7,h8⟩=>⟨ae h1 hb,h2,h3,fun a b=>by
  obtain⟨g,e1,e2⟩:=h4 a b
  exact⟨g,e1,e2.below hb⟩,fun a b=>(h5 a b).below hb,fun a b=>by
  obtain⟨x,e,e1,e2⟩:=h6 a b
  exact⟨x,e,e1,e2.below hb⟩,fun a b=>(h7 a b).below hb,fun a=>(h8 a).below hb⟩
theorem Hd {W0:World} {q:Nat} {l:List Cc} {c:Cc} (y:Nat→Value):qO W0 q l c (fun _=>false) y W0:=by
 refine⟨Below.refl _ _,?_,?_,?_,?_,?_,?_,?_⟩<;>· intro h;cases h
theorem JC {W0 W:World} {q:Nat} {l:List Cc} {c:Cc} {L:Nat→Bool} {y:Nat→Value} (h:qO W0 q l c L y W):qO W0 q l c (bO L 1) (cK y 1 (.slice (some ⟨W.heap.size,0,none⟩) 0 0)) (W.alloc (.cells #[] 106)):=by
 obtain⟨h1,h2,h3,h4,h5,h6,h7,h8⟩:=bn _ _ _ _ ((Below.refl _ _).alloc (Nat.le_refl _) (.cells #[] 106)) h
 exact⟨h1,h2,h3,fun _ _=>⟨_,rfl,Own.empty _ _ h.1.size⟩,h5,h6,h7,h8⟩
theorem JW {W0 W W' : World} {q:Nat} {l:List Cc} {c:Cc} {L:Nat→Bool} {y:Nat→Value} {v:Value} (h:qO W0 q l c L y W) (hb:Below W.heap.size W W') (ho:Own W' W0.heap.size 106 3 v q ((l.flatMap kS).take (q*3))):qO W0 q l c (bO L 9) (cK y 9 v) W':=by
 obtain⟨h1,h2,h3,h4,h5,h6,h7,h8⟩:=bn _ _ _ _ hb h
 exact⟨h1,h2,fun _=>rfl,fun _ e=>(by cases e),fun _ _=>ho,h6,h7,h8⟩
theorem EO {W0 W W' : World} {q:Nat} {l:List Cc} {c:Cc} {L:Nat→Bool} {y:Nat→Value} {a:Option Addr} {e:Nat} (h:qO W0 q l c L y W) (hb:Below W.heap.size W W') (ho:lX W' a e 1 (kS c)):qO W0 q l c (bO L 14) (cK y 14 (.slice a 1 e)) W':=by
 obtain⟨h1,h2,h3,h4,h5,h6,h7,h8⟩:=bn _ _ _ _ hb h
 exact⟨h1,h2,h3,h4,h5,fun _ _=>⟨a,e,rfl,ho⟩,h7,h8⟩
theorem EP {W0 W W' : World} {q:Nat} {l:List Cc} {c:Cc} {L:Nat→Bool} {y:Nat→Value} {v:Value} (h:qO W0 q l c L y W) (h15:L 15=false) (h9:L 9=true) (hg:W.grownBy W' (y 9).ownBlock) (ho:Own W' W0.heap.size 106 3 v (q+1) ((l.flatMap kS).take (q*3)++kS c)):qO W0 q l c (bO L 15) (cK y 15 v) W':=by
 obtain⟨h1,h2,h3,h4,h5,h6,h7,h8⟩:=h
 have h23:L 23=true→False:=fun e=>by rw[h2 e] at h15;cases h15
 exact⟨h1.grown hg h1.size (fun k hk=>(h5 h9 h15).ge k hk),fun _=>rfl,fun _=>h9,fun _ e=>(by rw[show bO L 15 9=L 9 from rfl,h9] at e;cases e),fun _ e=>(by cases e),fun _ e=>(by cases e),fun _ _=>ho,fun e=>(h23 e).elim⟩
theorem DZ {W0 W W' : World} {q:Nat} {l:List Cc} {c:Cc} {L:Nat→Bool} {y:Nat→Value} {v:Value} (h:qO W0 q l c L y W) (h23:L 23=false) (h15:L 15=true) (hg:W.grownBy W' (y 15).ownBlock) (ho:Own W' W0.heap.size 106 3 v (q+1+(l.length-q)) (((l.flatMap kS).take (q*3)++kS c)++(l.flatMap kS).drop (q*3))):qO W0 q l c (bO L 23) (cK y 23 v) W':=by
 obtain⟨h1,h2,h3,h4,h5,h6,h7,h8⟩:=h
 exact⟨h1.grown hg h1.size (fun k hk=>(h7 h15 h23).ge k hk),fun _=>h15,h3,fun _ e=>(by rw[show bO L 23 9=L 9 from rfl,h3 h15] at e;cases e),fun _ e=>(by rw[show bO L 23 15=L 15 from rfl,h15] at e;cases e),fun _ e=>(by rw[show bO L 23 15=L 15 from rfl,h15] at e;cases e),fun _ e=>(by cases e),fun _=>ho⟩
structure Ah (S S' : MW):Prop where
 sp:S'.H.sp=S.H.sp
 fi:S'.H.fi=S.H.fi
 ct:S'.H.ct=S.H.ct
 dk:S'.H.dk=S.H.dk
 fl:S'.H.m.fs.length=S.H.m.fs.length
 sl:S'.H.sl.length=S.H.sl.length
theorem Ah.refl (S:MW):Ah S S:=⟨rfl,rfl,rfl,rfl,rfl,rfl⟩
theorem Ah.trans {a b c:MW} (h:Ah a b) (k:Ah b c):Ah a c:=⟨k.sp.trans h.sp,k.fi.trans h.fi,k.ct.trans h.ct,k.dk.trans h.dk,k.fl.trans h.fl,k.sl.trans h.sl⟩
theorem dm.rdM {w:World} {B b:Nat} {S:MW} (h:dm w B b S):cZ w (some ⟨b,1,none⟩) (bR S.H).toList:=bQ h.blk 1 11
theorem Bd.cas {m:Ma} {T:List (List En)} (h:Bd m T):m.ca.length≤60:=Iw (m:=dh m T) h.rt.ca h.rt.pt.st
theorem Bd.fis {m:Ma} {T:List (List En)} (h:Bd m T):∀f∈m.st.fs,f.b.length≤12:=qm h.rt.pt.st
def DR (S:MW) (B b:Nat) (w:World) (ks:List (Nat × Array Value × TypeId)):(Nat→Bool)→(Nat→Value)→World→Prop:=fun _ _ W=>
 ∃a c l,dm W B b (S.lst a c l)∧MS w b S W (S.lst a c l)∧∀t∈ks,aF W t.1 t.2.1 t.2.2∧¬iY b S t.1
theorem aD {S:MW} {B b:Nat} {w:World} {ks:List (Nat × Array Value × TypeId)}:∀L y W W',Below W.heap.size W W'→DR S B b w ks L y W→DR S B b w ks L y W':=
 fun _ _ _ _ hb ⟨a,c,l,h1,h2,h3⟩=>⟨a,c,l,h1.below hb,h2.below hb,fun t ht=>⟨(h3 t ht).1.ext hb,(h3 t ht).2⟩⟩
theorem rV {S:MW} {B b:Nat} {w W:World} {ks:List (Nat × Array Value × TypeId)} {L L' : Nat→Bool} {y:Nat→Value} {y' : Value→Nat→Value} (n:Int) (hn : -9223372036854775808≤n∧n≤9223372036854775807) (h:DR S B b w ks L y W) {R:Value→World→Prop} (hR:∀x:Int,0≤x→x<256→(x<n∨x=0)→∀W',R (.int .i64 x) W') :
  Calls Tryz.prog 30 #[.pointer (some ⟨b,0,none⟩),.int .i64 n] W fun e W' => ∃v,e = .returned v∧DR S B b w ks L' (y' v) W'∧R v W':=by
 obtain⟨a,c,l,h1,h2,h3⟩:=h
 refine (dH _ n B b W h1 hn).mono ?_
 rintro r W' ⟨x,a',c',l',rfl,k1,k2,k3,_⟩
 exact⟨_,rfl,⟨a',c',l',k1,h2.trans k2,fun t ht=>⟨k2.blkN (h3 t ht).1 (h3 t ht).2,(h3 t ht).2⟩⟩,hR x k3.1 k3.2.1 k3.2.2 W'⟩
theorem Io {S:MW} {B b:Nat} {w W:World} {ks:List (Nat × Array Value × TypeId)} {L L' : Nat→Bool} {y:Nat→Value} {y' : Value→Nat→Value} (h:DR S B b w ks L y W) {R:Value→World→Prop} (hR:∀P W',R (.agg (dW P)) W') :
  Calls Tryz.prog 33 #[.pointer (some ⟨b,0,none⟩)] W fun e W' => ∃v,e = .returned v∧DR S B b w ks L' (y' v) W'∧R v W':=by
 obtain⟨a,c,l,h1,h2,h3⟩:=h
 refine (pE _ B b W h1).mono ?_
 rintro r W' ⟨P,a',c',l',rfl,k1,k2⟩
 exact⟨_,rfl,⟨a',c',l',k1,h2.trans k2,fun t ht=>⟨k2.blkN (h3 t ht).1 (h3 t ht).2,(h3 t ht).2⟩⟩,hR P W'⟩
theorem Hf {l:List Cc} {f i:Int} {q:Nat} (hq:q≤l.length) (hno:∀d∈l.take q,Ha f i d=false) (hy:q=l.length∨∃c,l[q]?=some c∧Ha f i c=true):Cq l f i=q:=by
 unfold Cq
 rcases hy with rfl|⟨c,hc,hg⟩
 ·rw[List.take_of_length_le (Nat.le_refl _)] at hno
  rw[List.findIdx?_eq_none_iff.2 fun d hd=>hno d hd];rfl
 ·obtain⟨hl,rfl⟩:=List.getElem?_eq_some_iff.1 hc
  rw[List.findIdx?_eq_some_iff_getElem.2 ⟨hl,hg,fun j hj=>by
   have:=hno (l[j]'(by omega)) (List.mem_take_iff_getElem.2 ⟨j,by omega,rfl⟩)
   rw[this];decide⟩];rfl
def LD (S:MW) (f i:Int) (B b:Nat) (w:World) (r:Ending) (w' : World):Prop:=∃x S',r = .returned (.int .i64 x)∧dm w' B b S'∧MS w b S w' S'∧Ah S S'∧S'.T=S.T∧Bd S'.H.ma S'.T∧(x = -1∨∃c∈S'.H.ca,c.f=f∧c.i=i∧c.k=x)
theorem AR (S:MW) (f i:Int) (B b:Nat) (w:World) (h:dm w B b S) (hd:Bd S.H.ma S.T) (hi:BV S.H.ma.st f i) :
  Calls Tryz.prog 105 #[.pointer (some ⟨b,0,none⟩),.int .i64 f,.int .i64 i] w (LD S f i B b w):=by
 have z7:S.H.ca.length≤60:=hd.cas
 have hBs:=Lib.hid h.bs
 have hb':=h.lt
 obtain⟨F,rfl⟩:=Int.eq_ofNat_of_zero_le hi.1.1
 obtain⟨I,rfl⟩:=Int.eq_ofNat_of_zero_le hi.2.1
 have hFl:F<S.H.fi.length:=by have:=hi.1.2;simp[MH.ma,bT] at this;omega
 have hFi:(F:Int)<(S.H.fi.length:Int):=by omega
 have hlim:=zY hd.few.2.2.2.2.1 hi
 have hF5:(F:Int)<5:=hlim.1
 have hI12:(I:Int)<12:=hlim.2.1
 obtain⟨N,hN⟩:∃N,(aV S.H.ma.st (F:Int)).n=N:=⟨_,rfl⟩
 obtain⟨p,hp⟩:∃p,S.H.fi[F]?=some p:=⟨_,List.getElem?_eq_getElem hFl⟩
 have hpn:p.n=N:=by
  rw[←hN]
  have:aV S.H.ma.st (F:Int)=p.fi:=jZ (by show (S.H.fi.map PF.fi)[F]?=_;rw[List.getElem?_map,hp];rfl)
  rw[this];rfl
 have hp':=Lib.hid hp
 have hN':=Lib.hid hN
 have hpn':=Lib.hid hpn
 have hd':=Lib.hid hd
 have hi':=Lib.hid hi
 clear hd hi hp hN hpn hlim
 go_enter Tryz.func105,Tryz.ntmps105
 have hc:=h.blk.cell
 unfold eP at hc
 go_upto_region 2 with (fail)
 clear hc
 go_loopw [20] (fun k wr => ∃q:Nat,q≤S.H.ca.length∧k = .int .i64 q∧Below w.heap.size w wr∧Hid (∀d∈S.H.ca.take q,¬(d.f=(F:Int)∧d.i=(I:Int)))) (fun k _=>S.H.ca.length-(intOf k).toNat)
 case atStart=>exact⟨0,Nat.zero_le _,rfl,Below.refl _ _,Lib.hid (by simp)⟩
 case round=>
  obtain⟨q,hq,rfl,hbr,hno⟩:=hrel
  by_cases hql:q<S.H.ca.length
  ·obtain⟨bc,oc,hca,hrd⟩:=vk (h.ma.rd.below hbr).ca.rd q hql
   obtain⟨c,hc⟩:∃c,S.H.ca[q]?=some c:=⟨_,List.getElem?_eq_getElem hql⟩
   rw[show S.H.ca[q]=c from (List.getElem?_eq_some_iff.1 hc).2] at hrd
   have hqi:(q:Int)<(S.H.ca.length:Int):=by omega
   have hc':=Lib.hid hc
   clear hc
   rw[hca]
   go_wp2_with (first | (refine ay _ _ rfl bc (oc+q*3) rfl rfl _ hrd _ Tryz.underlying106 rfl cached_size ?_) | (refine aH rfl _ _ _ rfl (sZ c) rfl rfl rfl cached_size (nz c) ?_))
   intro w3 hb3 cx3
   have hbr3:=ae hbr hb3
   have hcx:=cx3.cell
   have hl3:=cx3.lt
   clear hbr hb3 hrd
   unfold sZ at hcx
   by_cases hy:c.f=(F:Int)∧c.i=(I:Int)
   ·obtain⟨hy1,hy2⟩:=hy
    rw[hy1,hy2] at hcx
    go_wp2
    go_ret
    exact⟨c.k,S,rfl,h.below hbr3,(MS.refl w b S).below hbr3,.refl _,rfl,hd'.out,.inr ⟨c,List.mem_of_getElem? hc'.out,hy1,hy2,rfl⟩⟩
   ·have hno' : Hid (∀d∈S.H.ca.take (q+1),¬(d.f=(F:Int)∧d.i=(I:Int))):=Lib.hid fun d hd=>by
     rw[take_at hc'.out] at hd
     rcases List.mem_append.1 hd with hd|hd
     ·exact hno.out d hd
     ·rw[List.mem_singleton.1 hd];exact hy
    by_cases hy1:c.f=(F:Int)
    ·have hy2:¬c.i=(I:Int):=fun e=>hy ⟨hy1,e⟩
     clear hy
     go_wp2
     go_roundw
     case rel=>exact⟨q+1,by omega,by go_num,hbr3,hno'⟩
     case measure=>simp[intOf];omega
    ·clear hy
     go_wp2
     go_roundw
     case rel=>exact⟨q+1,by omega,by go_num,hbr3,hno'⟩
     case measure=>simp[intOf];omega
  ·have hqi:¬(q:Int)<(S.H.ca.length:Int):=by omega
   rw[List.take_of_length_le (by omega)] at hno
   have h1:=h.below hbr
   have s1:=(MS.refl w b S).below hbr
   have hn0:=Lib.hid (h1.new (Nat.le_refl _))
   have hc:=h1.blk.cell
   unfold eP at hc
   go_wp2_with (refine ay _ _ rfl b 1 rfl rfl _ h1.rdM _ Tryz.underlying41 rfl machine_size ?_)
   refine (nQ S.H F I _ h1.ma.rd ⟨by omega,fun f hf=>Nat.le_trans (hd'.out.fis f hf) (by decide)⟩ (fun c hc=>hd'.out.rt.ca.lt c hc) (by have:=hi'.out.1;simpa[MH.ma,bT] using this) hi'.out.2).mono ?_
   rintro r w2 ⟨rfl,hb2⟩
   have hP:Hid (dS (aY S.H.ma F I) (N-(I:Int)*8)=aY S.H.ma F I∧aY S.H.ma F I=jE S.H.ma F I):=Lib.hid (by
    have e:aY S.H.ma F I=jE S.H.ma F I:=by
     unfold aY jE
     rw[show S.H.ma.ca.find? (fun c=>decide (c.f=(F:Int))&&decide (c.i=(I:Int)))=none from xz hno.out]
    exact⟨by rw[e,←hN'.out];exact FM _ _ _,e⟩)
   generalize aY S.H.ma F I=P at hP
   have h2:=h1.below hb2
   have s2:=s1.below hb2
   clear h1 s1 hc hb2 h hbr
   go_wp2_with (refine aH rfl _ _ _ rfl (dW P) rfl rfl rfl psize (eD P) ?_)
   intro w3 hb3 px3
   have h3:=h2.below hb3
   have s3:=s2.below hb3
   have hnp:=Lib.hid (h2.new (Nat.le_refl _))
   have hp0:=Lib.hid s2.size
   have hp1:w2.heap.size<w3.heap.size:=px3.lt
   have hpB:B≤w2.heap.size:=Nat.le_trans hBs.out hp0.out
   clear h2 s2 hb3
   generalize hp4:w2.heap.size=p4 at *
   clear hp4
   go_wp2_with fail
   refine (dH _ 2 B b _ h3 (by omega)).mono ?_
   rintro r w4 ⟨x,a4,c4,l4,rfl,h4,s4,hx,_⟩
   have px4:=s4.blkN px3 hnp.out
   have s4:=s3.trans s4
   clear h3 s3 px3 hx hp1
   go_upto_if 46 with (fail)
   go_cut [10] (fun s10 wx => ∃(d:Bool) (a:Option Addr) (c:Nat) (l:List UInt8) (P:Page),s10 = .bool d∧dm wx B b (S.lst a c l)∧MS w b S wx (S.lst a c l)∧aF wx p4 (dW P) 79∧Hid (dS P (N-(I:Int)*8)=P∧(d=false→P=jE S.H.ma F I)))
   case first=>
    by_cases hx1:x=1
    ·subst hx1
     go_wp2_with fail
     refine (pE _ B b _ h4).mono ?_
     rintro r w5 ⟨P2,a5,c5,l5,rfl,h5,s5⟩
     rw[jN] at h5 s5
     have px5:=s5.blkN px4 hnp.out
     have s5:=s4.trans s5
     clear h4 s4 px4 hP
     go_wp2_with (refine az rfl _ _ _ rfl p4 (dW P2) rfl rfl _ _ px5 rfl psize (eD _) ?_)
     intro w6 px6 hg6
     have h6:=h5.locT px5 (by decide) hnp.out hpB hg6
     have s6:=s5.loc hg6 hp0.out
     clear h5 s5 px5 hg6
     go_upto_region 11 with (fail)
     go_loopw [49] (fun j wr => ∃k:Nat,k≤8∧j = .int .i64 k∧dm wr B b (S.lst a5 c5 l5)∧MS w b S wr (S.lst a5 c5 l5)∧aF wr p4 (dW (fA P2 (N-(I:Int)*8) k)) 79) (fun j _=>8-(intOf j).toNat)
     case atStart=>exact⟨0,by omega,rfl,h6,s6,by rw[show fA P2 (N-(I:Int)*8) 0=P2 from by ext j hj;simp[fA]];exact px6⟩
     case round=>
      clear h6 s6 px6
      obtain⟨k,hk,rfl,hm,hs,px⟩:=hrel
      by_cases hk8:k<8
      ·have hki:(k:Int)<8:=by omega
       have hcx:=hm.blk.cell
       unfold eP at hcx
       dsimp only[MW.lst] at hcx
       obtain⟨bf,of,hai,hrd⟩:=gB kv (by decide) hm.ma.rd.st.rd F hFl
       dsimp only[MW.lst] at hai hrd
       rw[show S.H.fi[F]=p from (List.getElem?_eq_some_iff.1 hp'.out).2] at hrd
       rw[hai] at hcx
       have rc0:wr.cell? ⟨bf,of+F*2,none⟩=some (.int .i64 N):=by
        rw[←hpn'.out]
        obtain⟨b',o',e,hcc⟩:=hrd 0 _ rfl
        cases e
        exact hcc
       clear hrd hai
       have hw1:IntKind.i64.wrap (8*(I:Int))=8*(I:Int):=IntWalk.i64_in _ (by omega)
       have hw2:IntKind.i64.wrap (8*(I:Int)+(k:Int))=8*(I:Int)+(k:Int):=IntWalk.i64_in _ (by omega)
       by_cases hge:N≤8*(I:Int)+k
       ·have hset:Hid ((dW (fA P2 (N-(I:Int)*8) k)).setIfInBounds k (.int .u8 0)=dW (fA P2 (N-(I:Int)*8) (k+1))):=Lib.hid (by
         rw[←uw P2 _ k hk8 (by omega)];exact vM _ k hk8 0)
        generalize hT:fA P2 (N-(I:Int)*8) k=T at px hset
        clear hT
        go_wp2_with (refine aC rfl _ _ _ rfl p4 k _ [.int .u8 0] rfl rfl rfl _ _ px (by show k+1≤8;omega) (by kernel_rfl) (fun u hu=>by cases List.mem_singleton.1 hu;rfl) ?_)
        intro w7 px7 hg7
        rw[jv,hset.out] at px7
        have hm7:=hm.locT px (by decide) hnp.out hpB hg7
        have hs7:=hs.loc hg7 hp0.out
        clear hm hs px hg7 hcx rc0
        go_wp2
        go_roundw
        case rel=>exact⟨k+1,by omega,by go_num,hm7,hs7,px7⟩
        case measure=>simp[intOf];omega
       ·have hset:fA P2 (N-(I:Int)*8) k=fA P2 (N-(I:Int)*8) (k+1):=by
         ext j hj
         simp only[fA,Vector.getElem_ofFn]
         by_cases e:N-(I:Int)*8≤(j:Int)
         ·rw[if_neg (by omega),if_neg (by omega)]
         ·rw[if_neg (by omega),if_neg (by omega)]
        rw[hset] at px
        clear hset
        go_wp2
        go_roundw
        case rel=>exact⟨k+1,by omega,by go_num,hm,hs,px⟩
        case measure=>simp[intOf];omega
      ·have hki:¬(k:Int)<8:=by omega
       rw[tu _ _ k (by omega)] at px
       have hC:Hid (dS (dS P2 (N-(I:Int)*8)) (N-(I:Int)*8)=dS P2 (N-(I:Int)*8)):=Lib.hid (Ea _ _)
       generalize dS P2 (N-(I:Int)*8)=C at px hC
       go_wp2
       go_meet
       case rel=>exact⟨true,a5,c5,l5,C,rfl,hm,hs,px,Lib.hid ⟨hC.out,fun h=>(by cases h)⟩⟩
    ·go_wp2
     go_meet
     case rel=>exact⟨false,a4,c4,l4,P,rfl,h4,s4,px4,Lib.hid ⟨hP.out.1,fun _=>hP.out.2⟩⟩
   case rest=>
    obtain⟨d,a5,c5,l5,P2,rfl,h5,s5,px5,hP2⟩:=hcut
    clear h4 s4 px4 hP
    go_upto_region 16 with (fail)
    refine dN 9 [.v (.pointer (some ⟨b,0,none⟩)),.v (.agg (dW P2)),_,.r 3 ((aQ fun v => ∃x:Int,v = .int .i64 x∧0≤x)),.r 4 ((aQ fun v => ∃u,v = .bool u)),_,_,_,.r 8 ((aQ fun v => ∃u,v = .agg (qi ⟨P2,1,u,d,(F:Int),(I:Int)⟩)))] (DR S B b w [(p4,dW P2,79)]) aD (fun _=>⟨a5,c5,l5,h5,s5,by simpa using ⟨px5,hnp.out⟩⟩) (Qk aD rfl (ag ?_ (Qk aD rfl (ag ?_ (ag ?_ (Qk aD rfl (Qk aD rfl (Qk aD rfl (ag ?_ (aB)))))))))) (fun _=>rfl) rfl ?_
    ·intro ρ y W L hw hn hLi hLd hb hd
     refine bY aD (fun _ _ h=>h) hb ?_
     have E9:ρ (.tmp 9) = .pointer (some ⟨p4,0,none⟩):=(hn (.tmp 9) rfl).trans rfl
     obtain⟨a,c,l,m1,m2,m3⟩:=hb
     have m3:=(m3 _ (List.mem_singleton.2 rfl)).1
     refine aj (.agg (dW P2)) (ah rfl) (aX rfl E9 m3 Tryz.underlying79 rfl psize) rfl
    ·intro ρ y W L hw hn hLi hLd hb hd;have E72:=hw 72 2 rfl;have h2:y 2=_:=hd 2 rfl
     have EC:∀v,ρ (.const v)=v:=fun v=>hn (.const v) trivial
     have EF:∀f,ρ (.func f) = .func (.func f) #[] #[]:=fun f=>hn (.func f) trivial
     refine eF _ _ (ah rfl) (aK rfl (EF _) Tryz.func30 (by kernel_rfl) (by kernel_rfl) (by simp only[List.map_toArray,List.map_cons,List.map_nil,E72,h2,EC,EF];rfl)) ?_
     exact rV 2 (by omega) hb fun x h1 _ _ _=>⟨x,rfl,h1⟩
    ·intro ρ y W L hw hn hLi hLd hb hd
     refine bY aD (fun _ _ h=>h) hb ?_
     have E73:=hw 73 3 rfl
     have h3:=hd 3 rfl
     obtain⟨x,hx,_⟩:=h3
     refine aj _ (ah rfl) (kE rfl (E73.trans hx) (hn (.const _) trivial) (by simp[go_sem];rfl)) ⟨_,rfl⟩
    ·intro ρ y W L hw hn hLi hLd hb hd
     refine bY aD (fun _ _ h=>h) hb ?_
     have E71:=hw 71 1 rfl
     have h1:y 1=_:=hd 1 rfl
     have E74:=hw 74 4 rfl
     have h4:=hd 4 rfl
     have E75:=hw 75 5 rfl
     have h5:y 5=_:=hd 5 rfl
     have E76:=hw 76 6 rfl
     have h6:y 6=_:=hd 6 rfl
     have E77:=hw 77 7 rfl
     have h7:y 7=_:=hd 7 rfl
     obtain⟨u,hu⟩:=h4
     have EC:∀v,ρ (.const v)=v:=fun v=>hn (.const v) trivial
     refine aj (.agg (qi ⟨P2,1,u,d,(F:Int),(I:Int)⟩)) (ah rfl) (by simp[execOp,go_sem,E71,h1,E74,E75,h5,E76,h6,E77,h7,EC,hu,dW,qi]) ⟨_,rfl⟩
    intro y W5 hbW5 hRW5
    have hy3:((aQ fun v => ∃x:Int,v = .int .i64 x∧0≤x)).r (y 3) W5:=hRW5 3 (by decide)
    have hy4:((aQ fun v => ∃u,v = .bool u)).r (y 4) W5:=hRW5 4 (by decide)
    have hy8:((aQ fun v => ∃u,v = .agg (qi ⟨P2,1,u,d,(F:Int),(I:Int)⟩))).r (y 8) W5:=hRW5 8 (by decide)
    clear hRW5
    obtain⟨a6,c6,l6,h6,s6,px6⟩:=hbW5
    have px6:=(px6 _ (List.mem_singleton.2 rfl)).1
    obtain⟨u,hu⟩:=hy8
    rw[hu]
    clear hu h5 s5 px5
    go_wp2_with fail
    refine (wJ _ _ B b _ h6 (by have:=hd'.out.few.1;show S.H.m.fs.length≤1000;have e:S.H.ma.m.fs.length=S.H.m.fs.length:=rfl;omega)).mono ?_
    rintro r w7 ⟨x7,a7,c7,l7,fs,rfl,h7,s7,hx7⟩
    rw[jN] at h7 s7
    have s7:=s6.trans s7
    clear h6 s6 px6
    rcases hx7 with ⟨rfl,rfl⟩|⟨j,rfl,hj,hjr,rfl⟩
    ·go_wp2
     go_ret
     exact⟨-1,_,rfl,h7,s7,⟨rfl,rfl,rfl,rfl,rfl,rfl⟩,rfl,hd'.out,.inl rfl⟩
    ·have hj' : j<S.H.m.fs.length:=hj
     have hjr':=Lib.hid hjr
     have hj0:(0:Int)≤(j:Int):=by omega
     clear hj hjr
     go_upto_region 20 with (fail)
     go_loopw [13] (fun k wr => ∃q:Nat,q≤S.H.ca.length∧k = .int .i64 q∧Below w7.heap.size w7 wr∧Hid (∀d∈S.H.ca.take q,Ha F I d=false)) (fun k _=>S.H.ca.length-(intOf k).toNat)
     case atStart=>exact⟨0,Nat.zero_le _,rfl,Below.refl _ _,Lib.hid (by simp)⟩
     case round=>
      obtain⟨q,hq,rfl,hb7,hno7⟩:=hrel
      have hm8:=h7.below hb7
      have hwc:IntKind.i64.wrap (100*(F:Int))=100*(F:Int):=IntWalk.i64_in _ (by omega)
      have hwd:IntKind.i64.wrap (100*(F:Int)+(I:Int))=100*(F:Int)+(I:Int):=IntWalk.i64_in _ (by omega)
      by_cases hql:q<S.H.ca.length
      ·obtain⟨bc,oc,hca,hrd⟩:=vk hm8.ma.rd.ca.rd q hql
       have hca:S.H.ac=some ⟨bc,oc,none⟩:=hca
       obtain⟨c,hc⟩:∃c,S.H.ca[q]?=some c:=⟨_,List.getElem?_eq_getElem hql⟩
       have hrd:cZ wr (some ⟨bc,oc+q*3,none⟩) (kS c):=by rw[←(List.getElem?_eq_some_iff.1 hc).2];exact hrd
       have hqi:(q:Int)<(S.H.ca.length:Int):=by omega
       have hcl:=hd'.out.rt.ca.file c (List.mem_of_getElem? hc)
       have hcl2:=zY hd'.out.few.2.2.2.2.1 hcl
       have hcl1:0≤c.f∧0≤c.i:=⟨hcl.1.1,hcl.2.1⟩
       have hwa:IntKind.i64.wrap (100*c.f)=100*c.f:=IntWalk.i64_in _ (by omega)
       have hwb:IntKind.i64.wrap (100*c.f+c.i)=100*c.f+c.i:=IntWalk.i64_in _ (by omega)
       have hq0:∀W,Below wr.heap.size wr W→W.cell? ⟨bc,oc+q*3,none⟩=some (.int .i64 c.f):=fun W hb=>by
        obtain⟨b',o',e,hcc⟩:=(hrd.below hb) 0 _ rfl
        cases e
        exact hcc
       have hq1:∀W,Below wr.heap.size wr W→W.cell? ⟨bc,oc+q*3+1,none⟩=some (.int .i64 c.i):=fun W hb=>by
        obtain⟨b',o',e,hcc⟩:=(hrd.below hb) 1 _ rfl
        cases e
        exact hcc
       have hgc:Hid (Ha F I c=true↔¬100*c.f+c.i<100*(F:Int)+(I:Int)):=Lib.hid (by
        rw[zV]
        omega)
       by_cases hlt:100*c.f+c.i<100*(F:Int)+(I:Int)
       ·skip
        go_upto_region 20 with (fail)
        refine aG 35 [_,_,_,_,_,_,_,_,_,_,_,_,_,_,_,_,_,_,_,_,_,_,_,_,_,_,_,_,_,_,_,_,_,_,.v (.bool true)] (Gk rfl (Gk rfl (Gk rfl (Gf b 1 rfl rfl (Gf b 10 rfl rfl (Gl hm8.blk (V:=.slice S.H.ac S.H.ca.length S.H.cc) (by simp[eP,MW.frs,MW.lst]) rfl rfl rfl rfl (Gn rfl rfl rfl rfl (Gb (.bool true) (by simp[go_sem,hqi,hql]) rfl rfl rfl rfl rfl (Gk rfl (Gk rfl (Gk rfl (Gf b 1 rfl rfl (Gf b 10 rfl rfl (Gl hm8.blk (V:=.slice (some ⟨bc,oc,none⟩) S.H.ca.length S.H.cc) (by simp[eP,MW.frs,MW.lst,hca]) rfl rfl rfl rfl (Gk rfl (Gr (.pointer (some ⟨bc,oc+q*3,none⟩)) (fun ρ y W hb hKn=>(aU rfl (aA rfl hKn) (aA rfl hKn) hql Tryz.underlying38 cached_size)) rfl rfl (Gf bc (oc+q*3) rfl rfl (Gc (.int .i64 c.f) (fun W hb=>by simp[hq0 _ hb]) rfl rfl rfl rfl (Gb (.int .i64 (100*c.f)) (by simp[go_sem,hwa]) rfl rfl rfl rfl rfl (Gk rfl (Gk rfl (Gf b 1 rfl rfl (Gf b 10 rfl rfl (Gl hm8.blk (V:=.slice (some ⟨bc,oc,none⟩) S.H.ca.length S.H.cc) (by simp[eP,MW.frs,MW.lst,hca]) rfl rfl rfl rfl (Gk rfl (Gr (.pointer (some ⟨bc,oc+q*3,none⟩)) (fun ρ y W hb hKn=>(aU rfl (aA rfl hKn) (aA rfl hKn) hql Tryz.underlying38 cached_size)) rfl rfl (Gf bc (oc+q*3+1) rfl rfl (Gc (.int .i64 c.i) (fun W hb=>by simp[hq1 _ hb]) rfl rfl rfl rfl (Gb (.int .i64 (100*c.f+c.i)) (by simp[go_sem,hwb]) rfl rfl rfl rfl rfl (Gk rfl (Gb (.int .i64 (100*(F:Int))) (by simp[go_sem,hwc]) rfl rfl rfl rfl rfl (Gk rfl (Gb (.int .i64 (100*(F:Int)+(I:Int))) (by simp[go_sem,hwd]) rfl rfl rfl rfl rfl (Gb (.bool true) (by simp[go_sem,hlt]) rfl rfl rfl rfl rfl (Gk rfl (aB)))))))))))))))))))))))))))))))))))) (fun _=>rfl) rfl ?_
        intro y W8 hbW8 _
        have hno8:Hid (∀d∈S.H.ca.take (q+1),Ha F I d=false):=Lib.hid fun d hd=>by
         rw[take_at hc] at hd
         rcases List.mem_append.1 hd with hd|hd
         ·exact hno7.out d hd
         ·rw[List.mem_singleton.1 hd]
          cases hg:Ha F I c with
          | false=>rfl
          | true=>exact absurd hlt (hgc.out.1 hg)
        have hb8:=ae hb7 hbW8
        clear hbW8 hc hca hrd hq0 hq1 hgc hno7 hm8
        go_wp2
        go_roundw
        case rel=>exact⟨q+1,by omega,by go_num,hb8,hno8⟩
        case measure=>simp[intOf];omega
       ·skip
        go_upto_region 20 with (fail)
        refine aG 35 [_,_,_,_,_,_,_,_,_,_,_,_,_,_,_,_,_,_,_,_,_,_,_,_,_,_,_,_,_,_,_,_,_,_,.v (.bool false)] (Gk rfl (Gk rfl (Gk rfl (Gf b 1 rfl rfl (Gf b 10 rfl rfl (Gl hm8.blk (V:=.slice S.H.ac S.H.ca.length S.H.cc) (by simp[eP,MW.frs,MW.lst]) rfl rfl rfl rfl (Gn rfl rfl rfl rfl (Gb (.bool true) (by simp[go_sem,hqi,hql]) rfl rfl rfl rfl rfl (Gk rfl (Gk rfl (Gk rfl (Gf b 1 rfl rfl (Gf b 10 rfl rfl (Gl hm8.blk (V:=.slice (some ⟨bc,oc,none⟩) S.H.ca.length S.H.cc) (by simp[eP,MW.frs,MW.lst,hca]) rfl rfl rfl rfl (Gk rfl (Gr (.pointer (some ⟨bc,oc+q*3,none⟩)) (fun ρ y W hb hKn=>(aU rfl (aA rfl hKn) (aA rfl hKn) hql Tryz.underlying38 cached_size)) rfl rfl (Gf bc (oc+q*3) rfl rfl (Gc (.int .i64 c.f) (fun W hb=>by simp[hq0 _ hb]) rfl rfl rfl rfl (Gb (.int .i64 (100*c.f)) (by simp[go_sem,hwa]) rfl rfl rfl rfl rfl (Gk rfl (Gk rfl (Gf b 1 rfl rfl (Gf b 10 rfl rfl (Gl hm8.blk (V:=.slice (some ⟨bc,oc,none⟩) S.H.ca.length S.H.cc) (by simp[eP,MW.frs,MW.lst,hca]) rfl rfl rfl rfl (Gk rfl (Gr (.pointer (some ⟨bc,oc+q*3,none⟩)) (fun ρ y W hb hKn=>(aU rfl (aA rfl hKn) (aA rfl hKn) hql Tryz.underlying38 cached_size)) rfl rfl (Gf bc (oc+q*3+1) rfl rfl (Gc (.int .i64 c.i) (fun W hb=>by simp[hq1 _ hb]) rfl rfl rfl rfl (Gb (.int .i64 (100*c.f+c.i)) (by simp[go_sem,hwb]) rfl rfl rfl rfl rfl (Gk rfl (Gb (.int .i64 (100*(F:Int))) (by simp[go_sem,hwc]) rfl rfl rfl rfl rfl (Gk rfl (Gb (.int .i64 (100*(F:Int)+(I:Int))) (by simp[go_sem,hwd]) rfl rfl rfl rfl rfl (Gb (.bool false) (by simp[go_sem,hlt]) rfl rfl rfl rfl rfl (Gk rfl (aB)))))))))))))))))))))))))))))))))))) (fun _=>rfl) rfl ?_
        intro y W8 hbW8 _
        have hat:Hid (Cq S.H.ca F I=q):=Lib.hid (Hf hq hno7.out (.inr ⟨c,hc,hgc.out.2 hlt⟩))
        clear hc hca hrd hq0 hq1 hgc
        have hb8:=ae hb7 hbW8
        have hm9:=h7.below hb8
        have s9:=s7.below hb8
        clear hbW8 hm8 hno7
        go_upto_region 22 with (fail)
        have sC:lX W8 S.H.ac S.H.cc S.H.ca.length (S.H.ca.flatMap kS):=hm9.ma.rd.ca
        have sT:=sC.take (sz:=3) hq
        have hcl60:S.H.ca.length≤60:=z7
        have tlen:((S.H.ca.flatMap kS).take (q*3)).length=q*3:=by rw[List.length_take,nu];omega
        have dlen:((S.H.ca.flatMap kS).drop (q*3)).length=(S.H.ca.length-q)*3:=by rw[List.length_drop,nu];omega
        refine dN 27 [_,.r 1 ((aQ fun _=>True)),_,_,_,_,.v (.slice S.H.ac S.H.ca.length S.H.cc),_,_,.r 9 ((aQ fun _=>True)),_,_,_,.v (.agg #[.int .i64 (F:Int),.int .i64 (I:Int),.int .i64 (j:Int)]),.r 14 ((aQ fun _=>True)),.r 15 ((aQ fun _=>True)),_,_,_,_,.v (.slice S.H.ac S.H.ca.length S.H.cc),_,.r 22 ((aQ fun v => ∃a e,v = .slice a (S.H.ca.length-q) e∧lX W8 a e (S.H.ca.length-q) ((S.H.ca.flatMap kS).drop (q*3)))),.r 23 ((aQ fun _=>True)),_,_,_] (qO W8 q S.H.ca ⟨(F:Int),(I:Int),(j:Int)⟩) bn (fun y=>Hd y) (Qk bn rfl (ag ?_ (Qk bn rfl (Qk bn rfl (Qf bn b 1 rfl rfl (Qf bn b 10 rfl rfl (ag ?_ (Qk bn rfl (Qr bn (.slice S.H.ac q S.H.cc) (fun ρ y W hKn=>(BN (W0:=W8) rfl (aA rfl hKn) (aA rfl hKn) hq Tryz.underlying38 cached_size sC).1) rfl rfl (ag ?_ (Qk bn rfl (Qk bn rfl (Qk bn rfl (ag ?_ (ag ?_ (ag ?_ (Qk bn rfl (Qk bn rfl (Qf bn b 1 rfl rfl (Qf bn b 10 rfl rfl (ag ?_ (Qk bn rfl (ag ?_ (ag ?_ (Qk bn rfl (Qf bn b 1 rfl rfl (Qf bn b 10 rfl rfl (aB)))))))))))))))))))))))))))) (fun _=>rfl) rfl ?_
        ·intro ρ y W L hw hn hLi hLd hb hd
         refine bL (.slice (some ⟨W.heap.size,0,none⟩) 0 0) (ah rfl) ?_ (JC hb) trivial
         simp[execOp,go_sem]
        ·intro ρ y W L hw hn hLi hLd hb hd
         refine bY bn (fun _ _ h=>h) hb ?_
         have E124:=hw 124 5 rfl
         have h5:y 5=_:=hd 5 rfl
         refine aj (.slice S.H.ac S.H.ca.length S.H.cc) (ah rfl) (by simp[execOp,go_sem,E124,h5,(hm9.below hb.1).blk.cell,eP,MW.frs,MW.lst]) rfl
        ·intro ρ y W L hw hn hLi hLd hb hd;have E120:=hw 120 1 rfl;have h1:=hd 1 rfl;have E127:=hw 127 8 rfl;have h8:y 8=_:=hd 8 rfl
         obtain⟨g,hg1,hg2⟩:=hb.2.2.2.1 (hLd 1 rfl) hLi
         refine dM (ah rfl) (rZ _ _ _ rfl W8.heap.size 106 (.agg #[.int .i64 0,.int .i64 0,.int .i64 0]) 3 24 Tryz.underlying38 cached_info rfl (by decide) g (E120.trans hg1) hg2 S.H.ac q S.H.cc _ (E127.trans h8) sT.nl sT.le tlen (sT.below hb.1).rd (by unfold maxLen;omega) (by omega) hb.1.size) (fun v W1 h=>JW hb h.1 h.2) (fun _ _ _=>trivial)
        ·intro ρ y W L hw hn hLi hLd hb hd
         refine bY bn (fun _ _ h=>h) hb ?_
         have E129:=hw 129 10 rfl
         have h10:y 10=_:=hd 10 rfl
         have E130:=hw 130 11 rfl
         have h11:y 11=_:=hd 11 rfl
         have E131:=hw 131 12 rfl
         have h12:y 12=_:=hd 12 rfl
         refine aj (.agg #[.int .i64 (F:Int),.int .i64 (I:Int),.int .i64 (j:Int)]) (ah rfl) (by simp[execOp,go_sem,E129,h10,E130,h11,E131,h12]) rfl
        ·intro ρ y W L hw hn hLi hLd hb hd;have E132:=hw 132 13 rfl;have h13:y 13=_:=hd 13 rfl
         refine bL (.slice (some ⟨W.heap.size,0,none⟩) 1 1) (ah rfl) ?_ (EO (W':=W.alloc (.cells (sZ ⟨(F:Int),(I:Int),(j:Int)⟩) 106)) hb ((Below.refl _ _).alloc (Nat.le_refl _) _) ⟨Nat.le_refl _,by unfold maxLen;omega,fun e=>(by cases e),cZ.new _ _ _⟩) trivial
         simp[execOp,go_sem,E132.trans h13,sZ]
        ·intro ρ y W L hw hn hLi hLd hb hd;have E128:=hw 128 9 rfl;have h9:=hd 9 rfl;have E133:=hw 133 14 rfl;have h14:=hd 14 rfl
         obtain⟨a,e,hx1,hx2⟩:=hb.2.2.2.2.2.1 (hLd 14 rfl) hLi
         have hv:=hb.2.2.2.2.1 (hLd 9 rfl) hLi
         refine dM (ah rfl) (gL _ _ _ rfl W8.heap.size 106 (.agg #[.int .i64 0,.int .i64 0,.int .i64 0]) 3 24 Tryz.underlying38 cached_info rfl (by decide) (y 9) q _ E128 hv a 1 e _ (E133.trans hx1) hx2.nl hx2.le rfl hx2.rd (zF _) (by unfold maxLen;omega) (by omega) hb.1.size) (fun v W1 h=>EP hb hLi (hLd 9 rfl) h.2.1 h.1) (fun _ _ _=>trivial)
        ·intro ρ y W L hw hn hLi hLd hb hd
         refine bY bn (fun _ _ h=>h) hb ?_
         have E138:=hw 138 19 rfl
         have h19:y 19=_:=hd 19 rfl
         refine aj (.slice S.H.ac S.H.ca.length S.H.cc) (ah rfl) (by simp[execOp,go_sem,E138,h19,(hm9.below hb.1).blk.cell,eP,MW.frs,MW.lst]) rfl
        ·intro ρ y W L hw hn hLi hLd hb hd
         refine bY bn (fun _ _ h=>h) hb ?_
         have E139:=hw 139 20 rfl
         have h20:y 20=_:=hd 20 rfl
         have E140:=hw 140 21 rfl
         have h21:y 21=_:=hd 21 rfl
         exact AV (ah rfl) (BD (W0:=W8) rfl (E139.trans h20) (E140.trans h21) hq Tryz.underlying38 cached_size (nu _) sC) (fun _ h=>h)
        ·intro ρ y W L hw hn hLi hLd hb hd;have E134:=hw 134 15 rfl;have h15:=hd 15 rfl;have E141:=hw 141 22 rfl;have h22:=hd 22 rfl
         obtain⟨a,e,hx1,hx2⟩:=h22
         have hv:=hb.2.2.2.2.2.2.1 (hLd 15 rfl) hLi
         refine dM (ah rfl) (gL _ _ _ rfl W8.heap.size 106 (.agg #[.int .i64 0,.int .i64 0,.int .i64 0]) 3 24 Tryz.underlying38 cached_info rfl (by decide) (y 15) (q+1) _ E134 hv a (S.H.ca.length-q) e _ (E141.trans hx1) hx2.nl hx2.le dlen (hx2.below hb.1).rd (fun u hu=>zB _ u (List.mem_of_mem_drop hu)) (by unfold maxLen;omega) (by omega) hb.1.size) (fun v W1 h=>DZ hb hLi (hLd 15 rfl) h.2.1 h.1) (fun _ _ _=>trivial)
        intro y W9 hbW9 hRW9
        have hy1:((aQ fun _=>True)).r (y 1) W9:=hRW9 1 (by decide)
        have hy9:((aQ fun _=>True)).r (y 9) W9:=hRW9 9 (by decide)
        have hy14:((aQ fun _=>True)).r (y 14) W9:=hRW9 14 (by decide)
        have hy15:((aQ fun _=>True)).r (y 15) W9:=hRW9 15 (by decide)
        have hy22:((aQ fun v => ∃a e,v = .slice a (S.H.ca.length-q) e∧lX W8 a e (S.H.ca.length-q) ((S.H.ca.flatMap kS).drop (q*3)))).r (y 22) W9:=hRW9 22 (by decide)
        have hy23:((aQ fun _=>True)).r (y 23) W9:=hRW9 23 (by decide)
        clear hRW9
        have hoC:=hbW9.2.2.2.2.2.2.2 rfl
        have hm10:=hm9.below hbW9.1
        have s10:=s9.below hbW9.1
        rw[uQ _ _ _ hq] at hoC
        have hlenI:Hid ((S.H.ca.insertIdx q (⟨(F:Int),(I:Int),(j:Int)⟩:Cc)).length=q+1+(S.H.ca.length-q)):=Lib.hid (by rw[List.length_insertIdx_of_le_length hq];omega)
        obtain⟨a9,c9,hv9,_⟩:=hoC.rd
        rw[hv9] at hoC ⊢
        have hge9:Hid (∀x,oB a9=some x→w.heap.size≤x):=Lib.hid fun x hx=>Nat.le_trans s9.size (fD hoC hx).1
        have hoC:=hoC.mono (Nat.le_trans hm9.bs (Nat.le_refl _))
        clear hv9 hbW9 hm9 s9 sT sC tlen dlen h7 s7
        go_wp2_with (refine aC rfl _ _ _ rfl b 10 _ [.slice a9 (q+1+(S.H.ca.length-q)) c9] rfl rfl rfl _ _ hm10.blk (by show 10+1≤13;omega) (by kernel_rfl) (fun u hu=>by cases List.mem_singleton.1 hu;rfl) ?_)
        intro w11 hb11 hg11
        have hm12:=hm10.setC (l:=S.H.ca.insertIdx q ⟨(F:Int),(I:Int),(j:Int)⟩) (by rw[hlenI.out];exact hoC) (by rw[hlenI.out];exact hb11) hg11
        have s12:=s10.put (H':=_) hg11 (.inl rfl) (fun x (hx:iY b { ((S.lst a7 c7 l7).frs (S.H.m.fs.set j ⟨P2,1,u,d,(F:Int),(I:Int)⟩)) with H:={ ((S.lst a7 c7 l7).frs (S.H.m.fs.set j ⟨P2,1,u,d,(F:Int),(I:Int)⟩)).H with ac:=a9,cc:=c9,ca:=S.H.ca.insertIdx q ⟨(F:Int),(I:Int),(j:Int)⟩ } } x)=>by
         rcases hx with hx|hx
         ·exact .inl (.inl hx)
         ·simp only[dZ,List.mem_cons,List.not_mem_nil,or_false] at hx
          rcases hx with hx|hx|hx|hx|hx|hx|hx|hx|hx
          ·exact .inl (.inr (by simp only[dZ,List.mem_cons,List.not_mem_nil,or_false];exact .inl hx))
          ·exact .inl (.inr (by simp only[dZ,List.mem_cons,List.not_mem_nil,or_false];exact .inr (.inl hx)))
          ·exact .inl (.inr (by simp only[dZ,List.mem_cons,List.not_mem_nil,or_false];exact .inr (.inr (.inl hx))))
          ·exact .inl (.inr (by simp only[dZ,List.mem_cons,List.not_mem_nil,or_false];exact .inr (.inr (.inr (.inl hx)))))
          ·exact .inl (.inr (by simp only[dZ,List.mem_cons,List.not_mem_nil,or_false];exact .inr (.inr (.inr (.inr (.inl hx))))))
          ·exact .inl (.inr (by simp only[dZ,List.mem_cons,List.not_mem_nil,or_false];exact .inr (.inr (.inr (.inr (.inr (.inl hx)))))))
          ·exact .inr (hge9.out x hx.symm)
          ·exact .inl (.inr (by simp only[dZ,List.mem_cons,List.not_mem_nil,or_false];exact .inr (.inr (.inr (.inr (.inr (.inr (.inr (.inl hx)))))))))
          ·exact .inl (.inr (by simp only[dZ,List.mem_cons,List.not_mem_nil,or_false];exact .inr (.inr (.inr (.inr (.inr (.inr (.inr (.inr hx))))))))))
        clear hm10 s10 hb11 hg11 hoC
        go_wp2
        go_ret
        have hbd:=hd'.out.cache (X:=⟨P2,1,u,d,(F:Int),(I:Int)⟩) hi'.out hno.out hj' hjr'.out ⟨rfl,rfl,rfl⟩ (by rw[hN'.out];exact hP2.out.1) hP2.out.2
        refine⟨j,_,rfl,hm12,s12,⟨rfl,rfl,rfl,rfl,List.length_set,rfl⟩,rfl,?_,.inr ⟨⟨(F:Int),(I:Int),(j:Int)⟩,(List.mem_insertIdx hq).2 (.inl rfl),rfl,rfl,rfl⟩⟩
        unfold qF at hbd
        rw[show Cq S.H.ma.ca F I=q from hat.out] at hbd
        exact hbd
      ·have hqi:¬(q:Int)<(S.H.ca.length:Int):=by omega
       go_upto_region 20 with (fail)
       refine aG 35 [_,_,_,_,_,_,_,_,_,_,_,_,_,_,_,_,_,_,_,_,_,_,_,_,_,_,_,_,_,_,_,_,_,_,.v (.bool false)] (Gk rfl (Gk rfl (Gk rfl (Gf b 1 rfl rfl (Gf b 10 rfl rfl (Gl hm8.blk (V:=.slice S.H.ac S.H.ca.length S.H.cc) (by simp[eP,MW.frs,MW.lst]) rfl rfl rfl rfl (Gn rfl rfl rfl rfl (Gb (.bool false) (by simp[go_sem,hqi,hql]) rfl rfl rfl rfl rfl (Gk rfl (Gk rfl (Gk rfl (Gk rfl (Gk rfl (Gk rfl (Gk rfl (Gk rfl (Gk rfl (Gk rfl (Gk rfl (Gk rfl (Gk rfl (Gk rfl (Gk rfl (Gk rfl (Gk rfl (Gk rfl (Gk rfl (Gk rfl (Gk rfl (Gk rfl (Gk rfl (Gk rfl (Gk rfl (Gk rfl (Gk rfl (aB)))))))))))))))))))))))))))))))))))) (fun _=>rfl) rfl ?_
       intro y W8 hbW8 _
       have hat:Hid (Cq S.H.ca F I=q):=Lib.hid (Hf hq hno7.out (.inl (by omega)))
       have hb8:=ae hb7 hbW8
       have hm9:=h7.below hb8
       have s9:=s7.below hb8
       clear hbW8 hm8 hno7
       go_upto_region 22 with (fail)
       have sC:lX W8 S.H.ac S.H.cc S.H.ca.length (S.H.ca.flatMap kS):=hm9.ma.rd.ca
       have sT:=sC.take (sz:=3) hq
       have hcl60:S.H.ca.length≤60:=z7
       have tlen:((S.H.ca.flatMap kS).take (q*3)).length=q*3:=by rw[List.length_take,nu];omega
       have dlen:((S.H.ca.flatMap kS).drop (q*3)).length=(S.H.ca.length-q)*3:=by rw[List.length_drop,nu];omega
       refine dN 27 [_,.r 1 ((aQ fun _=>True)),_,_,_,_,.v (.slice S.H.ac S.H.ca.length S.H.cc),_,_,.r 9 ((aQ fun _=>True)),_,_,_,.v (.agg #[.int .i64 (F:Int),.int .i64 (I:Int),.int .i64 (j:Int)]),.r 14 ((aQ fun _=>True)),.r 15 ((aQ fun _=>True)),_,_,_,_,.v (.slice S.H.ac S.H.ca.length S.H.cc),_,.r 22 ((aQ fun v => ∃a e,v = .slice a (S.H.ca.length-q) e∧lX W8 a e (S.H.ca.length-q) ((S.H.ca.flatMap kS).drop (q*3)))),.r 23 ((aQ fun _=>True)),_,_,_] (qO W8 q S.H.ca ⟨(F:Int),(I:Int),(j:Int)⟩) bn (fun y=>Hd y) (Qk bn rfl (ag ?_ (Qk bn rfl (Qk bn rfl (Qf bn b 1 rfl rfl (Qf bn b 10 rfl rfl (ag ?_ (Qk bn rfl (Qr bn (.slice S.H.ac q S.H.cc) (fun ρ y W hKn=>(BN (W0:=W8) rfl (aA rfl hKn) (aA rfl hKn) hq Tryz.underlying38 cached_size sC).1) rfl rfl (ag ?_ (Qk bn rfl (Qk bn rfl (Qk bn rfl (ag ?_ (ag ?_ (ag ?_ (Qk bn rfl (Qk bn rfl (Qf bn b 1 rfl rfl (Qf bn b 10 rfl rfl (ag ?_ (Qk bn rfl (ag ?_ (ag ?_ (Qk bn rfl (Qf bn b 1 rfl rfl (Qf bn b 10 rfl rfl (aB)))))))))))))))))))))))))))) (fun _=>rfl) rfl ?_
       ·intro ρ y W L hw hn hLi hLd hb hd
        refine bL (.slice (some ⟨W.heap.size,0,none⟩) 0 0) (ah rfl) ?_ (JC hb) trivial
        simp[execOp,go_sem]
       ·intro ρ y W L hw hn hLi hLd hb hd
        refine bY bn (fun _ _ h=>h) hb ?_
        have E124:=hw 124 5 rfl
        have h5:y 5=_:=hd 5 rfl
        refine aj (.slice S.H.ac S.H.ca.length S.H.cc) (ah rfl) (by simp[execOp,go_sem,E124,h5,(hm9.below hb.1).blk.cell,eP,MW.frs,MW.lst]) rfl
       ·intro ρ y W L hw hn hLi hLd hb hd;have E120:=hw 120 1 rfl;have h1:=hd 1 rfl;have E127:=hw 127 8 rfl;have h8:y 8=_:=hd 8 rfl
        obtain⟨g,hg1,hg2⟩:=hb.2.2.2.1 (hLd 1 rfl) hLi
        refine dM (ah rfl) (rZ _ _ _ rfl W8.heap.size 106 (.agg #[.int .i64 0,.int .i64 0,.int .i64 0]) 3 24 Tryz.underlying38 cached_info rfl (by decide) g (E120.trans hg1) hg2 S.H.ac q S.H.cc _ (E127.trans h8) sT.nl sT.le tlen (sT.below hb.1).rd (by unfold maxLen;omega) (by omega) hb.1.size) (fun v W1 h=>JW hb h.1 h.2) (fun _ _ _=>trivial)
       ·intro ρ y W L hw hn hLi hLd hb hd
        refine bY bn (fun _ _ h=>h) hb ?_
        have E129:=hw 129 10 rfl
        have h10:y 10=_:=hd 10 rfl
        have E130:=hw 130 11 rfl
        have h11:y 11=_:=hd 11 rfl
        have E131:=hw 131 12 rfl
        have h12:y 12=_:=hd 12 rfl
        refine aj (.agg #[.int .i64 (F:Int),.int .i64 (I:Int),.int .i64 (j:Int)]) (ah rfl) (by simp[execOp,go_sem,E129,h10,E130,h11,E131,h12]) rfl
       ·intro ρ y W L hw hn hLi hLd hb hd;have E132:=hw 132 13 rfl;have h13:y 13=_:=hd 13 rfl
        refine bL (.slice (some ⟨W.heap.size,0,none⟩) 1 1) (ah rfl) ?_ (EO (W':=W.alloc (.cells (sZ ⟨(F:Int),(I:Int),(j:Int)⟩) 106)) hb ((Below.refl _ _).alloc (Nat.le_refl _) _) ⟨Nat.le_refl _,by unfold maxLen;omega,fun e=>(by cases e),cZ.new _ _ _⟩) trivial
        simp[execOp,go_sem,E132.trans h13,sZ]
       ·intro ρ y W L hw hn hLi hLd hb hd;have E128:=hw 128 9 rfl;have h9:=hd 9 rfl;have E133:=hw 133 14 rfl;have h14:=hd 14 rfl
        obtain⟨a,e,hx1,hx2⟩:=hb.2.2.2.2.2.1 (hLd 14 rfl) hLi
        have hv:=hb.2.2.2.2.1 (hLd 9 rfl) hLi
        refine dM (ah rfl) (gL _ _ _ rfl W8.heap.size 106 (.agg #[.int .i64 0,.int .i64 0,.int .i64 0]) 3 24 Tryz.underlying38 cached_info rfl (by decide) (y 9) q _ E128 hv a 1 e _ (E133.trans hx1) hx2.nl hx2.le rfl hx2.rd (zF _) (by unfold maxLen;omega) (by omega) hb.1.size) (fun v W1 h=>EP hb hLi (hLd 9 rfl) h.2.1 h.1) (fun _ _ _=>trivial)
       ·intro ρ y W L hw hn hLi hLd hb hd
        refine bY bn (fun _ _ h=>h) hb ?_
        have E138:=hw 138 19 rfl
        have h19:y 19=_:=hd 19 rfl
        refine aj (.slice S.H.ac S.H.ca.length S.H.cc) (ah rfl) (by simp[execOp,go_sem,E138,h19,(hm9.below hb.1).blk.cell,eP,MW.frs,MW.lst]) rfl
       ·intro ρ y W L hw hn hLi hLd hb hd
        refine bY bn (fun _ _ h=>h) hb ?_
        have E139:=hw 139 20 rfl
        have h20:y 20=_:=hd 20 rfl
        have E140:=hw 140 21 rfl
        have h21:y 21=_:=hd 21 rfl
        exact AV (ah rfl) (BD (W0:=W8) rfl (E139.trans h20) (E140.trans h21) hq Tryz.underlying38 cached_size (nu _) sC) (fun _ h=>h)
       ·intro ρ y W L hw hn hLi hLd hb hd;have E134:=hw 134 15 rfl;have h15:=hd 15 rfl;have E141:=hw 141 22 rfl;have h22:=hd 22 rfl
        obtain⟨a,e,hx1,hx2⟩:=h22
        have hv:=hb.2.2.2.2.2.2.1 (hLd 15 rfl) hLi
        refine dM (ah rfl) (gL _ _ _ rfl W8.heap.size 106 (.agg #[.int .i64 0,.int .i64 0,.int .i64 0]) 3 24 Tryz.underlying38 cached_info rfl (by decide) (y 15) (q+1) _ E134 hv a (S.H.ca.length-q) e _ (E141.trans hx1) hx2.nl hx2.le dlen (hx2.below hb.1).rd (fun u hu=>zB _ u (List.mem_of_mem_drop hu)) (by unfold maxLen;omega) (by omega) hb.1.size) (fun v W1 h=>DZ hb hLi (hLd 15 rfl) h.2.1 h.1) (fun _ _ _=>trivial)
       intro y W9 hbW9 hRW9
       have hy1:((aQ fun _=>True)).r (y 1) W9:=hRW9 1 (by decide)
       have hy9:((aQ fun _=>True)).r (y 9) W9:=hRW9 9 (by decide)
       have hy14:((aQ fun _=>True)).r (y 14) W9:=hRW9 14 (by decide)
       have hy15:((aQ fun _=>True)).r (y 15) W9:=hRW9 15 (by decide)
       have hy22:((aQ fun v => ∃a e,v = .slice a (S.H.ca.length-q) e∧lX W8 a e (S.H.ca.length-q) ((S.H.ca.flatMap kS).drop (q*3)))).r (y 22) W9:=hRW9 22 (by decide)
       have hy23:((aQ fun _=>True)).r (y 23) W9:=hRW9 23 (by decide)
       clear hRW9
       have hoC:=hbW9.2.2.2.2.2.2.2 rfl
       have hm10:=hm9.below hbW9.1
       have s10:=s9.below hbW9.1
       rw[uQ _ _ _ hq] at hoC
       have hlenI:Hid ((S.H.ca.insertIdx q (⟨(F:Int),(I:Int),(j:Int)⟩:Cc)).length=q+1+(S.H.ca.length-q)):=Lib.hid (by rw[List.length_insertIdx_of_le_length hq];omega)
       obtain⟨a9,c9,hv9,_⟩:=hoC.rd
       rw[hv9] at hoC ⊢
       have hge9:Hid (∀x,oB a9=some x→w.heap.size≤x):=Lib.hid fun x hx=>Nat.le_trans s9.size (fD hoC hx).1
       have hoC:=hoC.mono (Nat.le_trans hm9.bs (Nat.le_refl _))
       clear hv9 hbW9 hm9 s9 sT sC tlen dlen h7 s7
       go_wp2_with (refine aC rfl _ _ _ rfl b 10 _ [.slice a9 (q+1+(S.H.ca.length-q)) c9] rfl rfl rfl _ _ hm10.blk (by show 10+1≤13;omega) (by kernel_rfl) (fun u hu=>by cases List.mem_singleton.1 hu;rfl) ?_)
       intro w11 hb11 hg11
       have hm12:=hm10.setC (l:=S.H.ca.insertIdx q ⟨(F:Int),(I:Int),(j:Int)⟩) (by rw[hlenI.out];exact hoC) (by rw[hlenI.out];exact hb11) hg11
       have s12:=s10.put (H':=_) hg11 (.inl rfl) (fun x (hx:iY b { ((S.lst a7 c7 l7).frs (S.H.m.fs.set j ⟨P2,1,u,d,(F:Int),(I:Int)⟩)) with H:={ ((S.lst a7 c7 l7).frs (S.H.m.fs.set j ⟨P2,1,u,d,(F:Int),(I:Int)⟩)).H with ac:=a9,cc:=c9,ca:=S.H.ca.insertIdx q ⟨(F:Int),(I:Int),(j:Int)⟩ } } x)=>by
        rcases hx with hx|hx
        ·exact .inl (.inl hx)
        ·simp only[dZ,List.mem_cons,List.not_mem_nil,or_false] at hx
         rcases hx with hx|hx|hx|hx|hx|hx|hx|hx|hx
         ·exact .inl (.inr (by simp only[dZ,List.mem_cons,List.not_mem_nil,or_false];exact .inl hx))
         ·exact .inl (.inr (by simp only[dZ,List.mem_cons,List.not_mem_nil,or_false];exact .inr (.inl hx)))
         ·exact .inl (.inr (by simp only[dZ,List.mem_cons,List.not_mem_nil,or_false];exact .inr (.inr (.inl hx))))
         ·exact .inl (.inr (by simp only[dZ,List.mem_cons,List.not_mem_nil,or_false];exact .inr (.inr (.inr (.inl hx)))))
         ·exact .inl (.inr (by simp only[dZ,List.mem_cons,List.not_mem_nil,or_false];exact .inr (.inr (.inr (.inr (.inl hx))))))
         ·exact .inl (.inr (by simp only[dZ,List.mem_cons,List.not_mem_nil,or_false];exact .inr (.inr (.inr (.inr (.inr (.inl hx)))))))
         ·exact .inr (hge9.out x hx.symm)
         ·exact .inl (.inr (by simp only[dZ,List.mem_cons,List.not_mem_nil,or_false];exact .inr (.inr (.inr (.inr (.inr (.inr (.inr (.inl hx)))))))))
         ·exact .inl (.inr (by simp only[dZ,List.mem_cons,List.not_mem_nil,or_false];exact .inr (.inr (.inr (.inr (.inr (.inr (.inr (.inr hx))))))))))
       clear hm10 s10 hb11 hg11 hoC
       go_wp2
       go_ret
       have hbd:=hd'.out.cache (X:=⟨P2,1,u,d,(F:Int),(I:Int)⟩) hi'.out hno.out hj' hjr'.out ⟨rfl,rfl,rfl⟩ (by rw[hN'.out];exact hP2.out.1) hP2.out.2
       refine⟨j,_,rfl,hm12,s12,⟨rfl,rfl,rfl,rfl,List.length_set,rfl⟩,rfl,?_,.inr ⟨⟨(F:Int),(I:Int),(j:Int)⟩,(List.mem_insertIdx hq).2 (.inl rfl),rfl,rfl,rfl⟩⟩
       unfold qF at hbd
       rw[show Cq S.H.ma.ca F I=q from hat.out] at hbd
       exact hbd
theorem ents_size:(Tryz.prog.info? 90).map (·.size)=some 192:=by kernel_rfl
theorem yH {cur:Array Value} {o d:Nat} {xs ys vs:List Value} (hlen:ys.length=xs.length) (hfit:o+xs.length≤cur.size) (hc:∀j u,xs[j]?=some u→cur[o+j]?=some u) (hd:d+vs.length≤xs.length)
  (hin:∀i,i<vs.length→ys[d+i]?=vs[i]?) (hout:∀i,(i<d∨d+vs.length≤i)→ys[i]?=xs[i]?):bC cur (o+d) vs=bC cur o ys:=by
 apply Array.ext_getElem?
 intro m
 by_cases h1:o≤m∧m<o+xs.length
 ·obtain⟨e,rfl⟩:∃e,m=o+e:=⟨m-o,by omega⟩
  obtain⟨u,hu⟩:∃u,ys[e]?=some u:=⟨_,List.getElem?_eq_getElem (by omega)⟩
  rw[putAt_in _ _ _ _ u (by omega) hu]
  by_cases h2:d≤e∧e<d+vs.length
  ·obtain⟨i,rfl⟩:∃i,e=d+i:=⟨e-d,by omega⟩
   rw[hin i (by omega)] at hu
   rw[←Nat.add_assoc]
   exact putAt_in _ _ _ _ u (by omega) hu
  ·rw[hout e (by omega)] at hu
   rw[putAt_out _ _ _ _ (by omega)]
   exact hc _ _ hu
 ·rw[putAt_out _ _ _ _ (by omega),putAt_out _ _ _ _ (by omega)]
theorem Cg {cur:Array Value} {o:Nat} {X:Fr} (hfit:o+13≤cur.size) (hc:∀j u,(nE X)[j]?=some u→cur[o+j]?=some u):bC cur (o+8) [.int .i64 (X.r+1)]=bC cur o (nE (dK X)):=
 yH (xs:=nE X) rfl hfit hc (by show 8+1≤13;omega) (fun i hi=>by
  obtain rfl:i=0:=by simpa using hi
  rfl) (fun i hi=>by
  match i,hi with
  | 0,_=>rfl
  | 1,_=>rfl
  | 2,_=>rfl
  | 3,_=>rfl
  | 4,_=>rfl
  | 5,_=>rfl
  | 6,_=>rfl
  | 7,_=>rfl
  | 8,h=>exact absurd h (by show ¬(8<8∨8+1≤8);omega)
  | 9,_=>rfl
  | 10,_=>rfl
  | 11,_=>rfl
  | 12,_=>rfl
  | n+13,_=>rfl)
def Mr (S:MW) (p n:Nat) (B b:Nat) (w:World) (r:Ending) (w' : World):Prop:=∃S',r = .returned (.tuple #[])∧dm w' B b S'∧MS w b S w' S'∧Ah S S'∧Bd S'.H.ma S'.T∧∀q j,¬(q=p∧j=n)→dG S'.T q j=dG S.T q j
theorem Df (S:MW) (p n:Nat) (g:Pg) (B b:Nat) (w:World) (h:dm w B b S) (hd:Bd S.H.ma S.T) (hp:p<S.H.sp.length) (hn:n<64) (h0:(dG S.T p n).k=0) (hg:onA (bP S.H.ma p).ar n=some g) (hfi:g.fi<S.H.fi.length) (hpg:0≤g.pg) (hsh:g.sh=true→0≤g.fi) :
  Calls Tryz.prog 65 #[.pointer (some ⟨b,0,none⟩),.int .i64 p,.int .i64 n,.agg #[.bool true,.bool g.rd,.bool g.wr,.bool g.sh,.int .i64 g.fi,.int .i64 g.pg]] w (Mr S p n B b w):=by
 obtain⟨grd,gwr,gsh,gfi,gpg⟩:=g
 dsimp only at hfi hpg hsh ⊢
 obtain⟨I,rfl⟩:=Int.eq_ofNat_of_zero_le hpg
 have hd':=Lib.hid hd
 have hg':=Lib.hid hg
 have h0':=Lib.hid h0
 have hBs:=Lib.hid h.bs
 clear hd hg h0 hpg
 go_enter Tryz.func65,Tryz.ntmps65
 go_upto_region 1 with (fail)
 refine fo (fun W=>Code.wp _ _ _ _ W) fun w1 hb1 bx1 hs1 => ?_
 have h1:=h.below hb1
 have s1:=(MS.refl w b S).below hb1
 have hn0:=Lib.hid (h.new (Nat.le_refl _))
 clear h hb1 hs1
 go_wp2_with fail
 refine (dH _ 4 B b _ h1 (by omega)).mono ?_
 rintro r w2 ⟨x,a2,c2,l2,rfl,h2,s2,hx,_⟩
 have bx2:=s2.blkN bx1 hn0.out
 have s2:=s1.trans s2
 clear h1 s1 bx1
 have hcx:=bx2.cell
 go_upto_region 5 with (fail)
 by_cases hx0:x=0
 ·subst hx0
  go_wp2
  refine bodyPost_ret (v:=.tuple #[]) (by simp[results,go_sem,Tryz.results65]) rfl ?_
  exact⟨_,rfl,h2,s2,⟨rfl,rfl,rfl,rfl,rfl,rfl⟩,hd'.out,fun _ _ _=>rfl⟩
 ·have hx0b:(x==0)=false:=by simp[hx0]
  go_upto_region 6 with (fail)
  go_cut [44] (fun s44 wx=>s44 = .bool (decide (0≤gfi∧(gsh=true∨x=1)))∧wx=w2)
  case first=>
   by_cases hf:0≤gfi
   ·cases gsh with
    | true=>
     go_wp2
     go_meet
     case rel=>exact⟨by simp[hf],rfl⟩
    | false=>
     by_cases hx1:x=1
     ·have hx1b:(x==1)=true:=by simp[hx1]
      have hx1':=Lib.hid hx1
      clear hx1
      go_wp2
      go_meet
      case rel=>exact⟨by rw[decide_eq_true ⟨hf,.inr hx1'.out⟩],rfl⟩
     ·have hx1b:(x==1)=false:=by simp[hx1]
      go_wp2
      go_meet
      case rel=>exact⟨by rw[decide_eq_false (by rintro⟨_,h | h⟩;cases h;exact hx1 h)],rfl⟩
   ·go_wp2
    go_meet
    case rel=>exact⟨by rw[decide_eq_false (fun h=>by have:=h.1;omega)],rfl⟩
  case rest=>
   obtain⟨rfl,hwc⟩:=hcut
   subst wc
   by_cases hF:0≤gfi∧(gsh=true∨x=1)
   ·rw[decide_eq_true hF]
    obtain⟨F,rfl⟩:=Int.eq_ofNat_of_zero_le hF.1
    have hFl:F<S.H.fi.length:=by omega
    obtain⟨p0,hp0⟩:∃p0,S.H.fi[F]?=some p0:=⟨_,List.getElem?_eq_getElem hFl⟩
    have hfa:Hid (aV S.H.ma.st (F:Int)=p0.fi):=Lib.hid (jZ (by show (S.H.fi.map PF.fi)[F]?=_;rw[List.getElem?_map,hp0];rfl))
    obtain⟨bf,of,hai,hrd⟩:=gB kv (by decide) h2.ma.rd.st.rd F hFl
    have hai:S.H.ai=some ⟨bf,of,none⟩:=hai
    have hrd:cZ w2 (some ⟨bf,of+F*2,none⟩) (pG p0):=by rw[←(List.getElem?_eq_some_iff.1 hp0).2];exact hrd
    have rc1:∀W,Below w2.heap.size w2 W→W.cell? ⟨bf,of+F*2+1,none⟩=some (.slice p0.a p0.l.length p0.c):=fun W hb=>by
     obtain⟨b',o',e,hcc⟩:=(hrd.below hb) 1 _ rfl
     cases e
     exact hcc
    have hfi':=Lib.hid hfi
    clear hp0 hrd hfi
    go_upto_region 7 with (fail)
    by_cases hge:(p0.l.length:Int)≤(I:Int)
    ·skip
     refine aG 15 [_,_,_,_,_,_,_,_,_,_,_,_,_,_,_] (Gf w.heap.size 5 rfl rfl (Gl bx2 rfl rfl rfl rfl rfl (Gk rfl (Gk rfl (Gf b 1 rfl rfl (Gf b 8 rfl rfl (Gf b 8 rfl rfl (Gl h2.blk (V:=.slice (some ⟨bf,of,none⟩) S.H.fi.length S.H.ci) (by simp[eP,MW.lst,hai]) rfl rfl rfl rfl (Gf w.heap.size 4 rfl rfl (Gl bx2 rfl rfl rfl rfl rfl (Gr (.pointer (some ⟨bf,of+F*2,none⟩)) (fun ρ y W hb hKn=>(aU rfl (aA rfl hKn) (aA rfl hKn) hFl Tryz.underlying35 file_size)) rfl rfl (Gf bf (of+F*2+1) rfl rfl (Gc (.slice p0.a p0.l.length p0.c) (fun W hb=>by simp[rc1 _ hb]) rfl rfl rfl rfl (Gn rfl rfl rfl rfl (Gb (.bool true) (by simp[go_sem,hge]) rfl rfl rfl rfl rfl (aB)))))))))))))))) (fun _=>rfl) rfl ?_
     intro y W3 hbW3 _
     have h3:=h2.below hbW3
     have s3:=s2.below hbW3
     have bx3:=bx2.ext hbW3
     clear h2 s2 bx2 hcx hbW3 rc1 hai
     have hcx:=bx3.cell
     go_wp2
     refine bodyPost_ret (v:=.tuple #[]) (by simp[results,go_sem,Tryz.results65]) rfl ?_
     exact⟨_,rfl,h3,s3,⟨rfl,rfl,rfl,rfl,rfl,rfl⟩,hd'.out,fun _ _ _=>rfl⟩
    ·skip
     refine aG 15 [_,_,_,_,_,_,_,_,_,_,_,_,_,_,_] (Gf w.heap.size 5 rfl rfl (Gl bx2 rfl rfl rfl rfl rfl (Gk rfl (Gk rfl (Gf b 1 rfl rfl (Gf b 8 rfl rfl (Gf b 8 rfl rfl (Gl h2.blk (V:=.slice (some ⟨bf,of,none⟩) S.H.fi.length S.H.ci) (by simp[eP,MW.lst,hai]) rfl rfl rfl rfl (Gf w.heap.size 4 rfl rfl (Gl bx2 rfl rfl rfl rfl rfl (Gr (.pointer (some ⟨bf,of+F*2,none⟩)) (fun ρ y W hb hKn=>(aU rfl (aA rfl hKn) (aA rfl hKn) hFl Tryz.underlying35 file_size)) rfl rfl (Gf bf (of+F*2+1) rfl rfl (Gc (.slice p0.a p0.l.length p0.c) (fun W hb=>by simp[rc1 _ hb]) rfl rfl rfl rfl (Gn rfl rfl rfl rfl (Gb (.bool false) (by simp[go_sem,hge]) rfl rfl rfl rfl rfl (aB)))))))))))))))) (fun _=>rfl) rfl ?_
     intro y W3 hbW3 _
     have h3:=h2.below hbW3
     have s3:=s2.below hbW3
     have bx3:=bx2.ext hbW3
     clear h2 s2 bx2 hcx hbW3 rc1 hai
     have hcx:=bx3.cell
     go_wp2_with fail
     refine (AR _ F I B b _ h3 hd'.out ⟨⟨by omega,by simp[MH.ma,bT,MW.lst];omega⟩,by omega,by show (I:Int)<(aV S.H.ma.st (F:Int)).b.length;rw[hfa.out];show (I:Int)<p0.l.length;omega⟩).mono ?_
     rintro r w4 ⟨x3,S3,rfl,h4,s4,k4,t4,bd4,hx4⟩
     have bx4:=s4.blkN bx3 hn0.out
     have hn4:=Lib.hid (s4.not bx3.lt hn0.out)
     have s4:=s3.trans s4
     clear h3 s3 bx3 hcx
     have hcx:=bx4.cell
     rcases hx4 with rfl|⟨c,hcm,hcf,hci,rfl⟩
     ·go_wp2
      refine bodyPost_ret (v:=.tuple #[]) (by simp[results,go_sem,Tryz.results65]) rfl ?_
      exact⟨S3,rfl,h4,s4,⟨k4.sp,k4.fi,k4.ct,k4.dk,k4.fl,k4.sl⟩,bd4,fun _ _ _=>by rw[t4];rfl⟩
     ·have hlt:=bd4.rt.ca.lt c hcm
      obtain⟨f,hfk⟩:=Int.eq_ofNat_of_zero_le hlt.1
      have hfl:f<S3.H.m.fs.length:=by have e:((dh S3.H.ma S3.T).m.fs.length:Nat)=S3.H.m.fs.length:=rfl;omega
      have hcm':=Lib.hid (And.intro hcm (And.intro hcf hci))
      have hfk':=Lib.hid hfk
      rw[hfk]
      clear hlt hcm hcf hci hfk
      obtain⟨gf,off,cap,cur,hv,hgB,hgk,hgs,hgc,hgw⟩:=h4.ma.fr.put eT (by decide) f hfl
      have haf:S3.H.af=some ⟨gf,off,none⟩:=(Value.slice.inj hv).1
      have hX:Hid (bB S3.H.ma f=S3.H.m.fs[f]):=Lib.hid (by
       unfold bB
       show S3.H.m.fs.getD f fr0=_
       rw[List.getD_eq_getElem?_getD,List.getElem?_eq_getElem (by omega)];rfl)
      have hr0:=bd4.rt.fewR (f:=f) hfl
      have hr1:0≤(S3.H.m.fs[f]).r∧(S3.H.m.fs[f]).r≤257:=by rw[←hX.out];exact hr0
      have c8:w4.cell? ⟨gf,off+f*13+8,none⟩=some (.int .i64 (S3.H.m.fs[f]).r):=hgc 8 _ rfl
      have hgw':=Lib.hid hgw
      have hgc':=Lib.hid hgc
      clear hv hgw hgc hr0
      generalize S3.H.m.fs[f]=X at c8 hX hr1 hgc'
      have hc:=h4.blk.cell
      unfold eP at hc
      rw[haf] at hc
      have hwr:IntKind.i64.wrap (X.r+1)=X.r+1:=IntWalk.i64_in _ (by omega)
      have hfi2:(f:Int)<(S3.H.m.fs.length:Int):=by omega
      go_wp2_with (refine aC rfl _ _ _ rfl gf (off+f*13+8) _ [.int .i64 (X.r+1)] rfl rfl rfl _ _ hgk (by show off+f*13+8+1≤cur.size;omega) (by kernel_rfl) (fun u hu=>by cases List.mem_singleton.1 hu;rfl) ?_)
      intro w5 hb5 hg5
      rw[Cg (by omega) (fun j u hj=>by rw[←hgk.cell];exact hgc'.out j u hj)] at hb5
      have h5:dm w5 B b (S3.frs (S3.H.m.fs.set f (dK X))):=h4.putF hgk hgB hg5 (fs:=S3.H.m.fs.set f (dK X)) (by simp) (by simpa using hgw'.out _ _ hb5)
      have hkaf:iY b S3 gf:=.inr (by simp only[dZ,haf];exact List.mem_cons_self)
      have s5:=s4.put (H':=S3.frs (S3.H.m.fs.set f (dK X))) hg5 hkaf (fun x hx => .inl hx)
      have bx5:=bx4.grown hg5 (fun e=>hn4.out (by rw[←Option.some.inj e];exact hkaf))
      have hn5:Hid (¬iY b (S3.frs (S3.H.m.fs.set f (dK X))) w.heap.size):=hn4
      have hTl:S3.T.length=S.H.sp.length:=by have:=bd4.ok.len;rw[this];show (S3.H.sp.map PS.sp).length=_;rw[List.length_map,k4.sp];rfl
      have hpT:p<S3.T.length:=by omega
      have hTn:∀(S' : MW),S'.T=S3.T→(dE S'.T p).length=64:=fun S' e=>by rw[e];exact bd4.ok.l64 (by rw[←bd4.ok.len];exact hpT)
      have hsp4:bP S3.H.ma p=bP S.H.ma p:=by
       show (S3.H.sp.map PS.sp).getD p zSp=(S.H.sp.map PS.sp).getD p zSp
       rw[k4.sp];rfl
      have hp4:p<S3.H.ma.sp.length:=by show p<(S3.H.sp.map PS.sp).length;rw[List.length_map,k4.sp];exact hp
      have hbdu:Hid (∀u:Bool,(u=true→gsh=true∧gwr=true)→Bd (S3.frs (S3.H.m.fs.set f (dK X))).H.ma (setL (S3.frs (S3.H.m.fs.set f (dK X))).T p n ⟨1,f,u⟩)):=Lib.hid fun u hu=>by
       have h9:=bd4.cachedE (w:=u) hp4 hn (by rw[t4];exact h0'.out) hcm'.out.1 (by rw[hsp4];exact hg'.out) hcm'.out.2 hu
       rw[hfk'.out,Int.toNat_natCast,hX.out] at h9
       exact h9
      have hK5:Hid (Ah S (S3.frs (S3.H.m.fs.set f (dK X)))):=Lib.hid ⟨k4.sp,k4.fi,k4.ct,k4.dk,by show (S3.H.m.fs.set f (dK X)).length=_;rw[List.length_set];exact k4.fl,k4.sl⟩
      have hent5:Hid (∀x q j,¬(q=p∧j=n)→dG (setL (S3.frs (S3.H.m.fs.set f (dK X))).T p n x) q j=dG S.T q j):=Lib.hid fun x q j hne=>by
       show dG (setL S3.T p n x) q j=_
       rw[oI bd4.ok hp4 hn,if_neg hne,t4];rfl
      have hpT5:Hid (p<(S3.frs (S3.H.m.fs.set f (dK X))).T.length):=Lib.hid hpT
      have hTn5:Hid (∀S' : MW,S'.T=(S3.frs (S3.H.m.fs.set f (dK X))).T→(dE S'.T p).length=64):=Lib.hid hTn
      generalize S3.frs (S3.H.m.fs.set f (dK X))=S5 at *
      obtain⟨gT,oT,_,hab,_⟩:=dm.ent (S:=S5) h5 (p:=p) (n:=n) hpT5.out hn (hTn5.out _ rfl)
      clear hsp4 hp4 hpT hTn hTl
      clear h4 s4 bx4 hcx hc c8 hb5 hg5 hgk hgc' hgw' hgs haf
      go_upto_region 11 with (fail)
      cases gsh with
      | true=>cases gwr with
       | true=>
        skip
        refine dN 20 [_,_,_,.v (.slice (some ⟨gT,oT,none⟩) S5.T.length S5.cb),_,.v (.int .i64 (n:Int)),_,_,.v (.bool true),_,_,.v (.bool true),_,_,_,.r 15 ((aQ fun v => ∃x:Int,v = .int .i64 x∧0≤x)),.r 16 ((aQ fun v => ∃u,v = .bool u)),.r 17 ((aQ fun v => ∃u,(u=true→true=true)∧v = .bool u)),.r 18 ((aQ fun v => ∃u,(u=true→true=true)∧v = .agg #[.int .i64 1,.int .i64 (f:Int),.bool u])),_] (DR S5 B b w5 [(w.heap.size,#[.bool true,.bool grd,.bool true,.bool true,.int .i64 (F:Int),.int .i64 (I:Int)],109)]) aD (fun _=>⟨S5.al,S5.cl,S5.l,h5,MS.refl _ _ _,by simpa using ⟨bx5,hn5.out⟩⟩) (Qk aD rfl (Qk aD rfl (Qf aD b 12 rfl rfl (ag ?_ (Qk aD rfl (Qk aD rfl (Qk aD rfl (Qf aD w.heap.size 3 rfl rfl (ag ?_ (Qk aD rfl (Qf aD w.heap.size 2 rfl rfl (ag ?_ (Qk aD rfl (Qk aD rfl (Qk aD rfl (ag ?_ (ag ?_ (ag ?_ (ag ?_ (Qr aD (.pointer (some ⟨gT,oT+p*192,none⟩)) (fun ρ y W hKn=>(aU rfl (aA rfl hKn) (aA rfl hKn) hpT5.out Tryz.underlying75 ents_size)) rfl rfl (aB))))))))))))))))))))) (fun _=>rfl) rfl ?_
        ·intro ρ y W L hw hn hLi hLd hb hd
         refine bY aD (fun _ _ h=>h) hb ?_
         have E94:=hw 94 2 rfl
         have h2:y 2=_:=hd 2 rfl
         obtain⟨a,c,l,m1,m2,m3⟩:=hb
         refine aj (.slice (some ⟨gT,oT,none⟩) S5.T.length S5.cb) (ah rfl) (by simp[execOp,go_sem,E94,h2,m1.blk.cell,eP,MW.lst,hab]) rfl
        ·intro ρ y W L hw hn hLi hLd hb hd
         refine bY aD (fun _ _ h=>h) hb ?_
         have E99:=hw 99 7 rfl
         have h7:y 7=_:=hd 7 rfl
         obtain⟨a,c,l,m1,m2,m3⟩:=hb
         have m3:=(m3 _ (List.mem_singleton.2 rfl)).1
         refine aj (.bool true) (ah rfl) (by simp[execOp,go_sem,E99,h7,m3.cell]) rfl
        ·intro ρ y W L hw hn hLi hLd hb hd
         refine bY aD (fun _ _ h=>h) hb ?_
         have E102:=hw 102 10 rfl
         have h10:y 10=_:=hd 10 rfl
         obtain⟨a,c,l,m1,m2,m3⟩:=hb
         have m3:=(m3 _ (List.mem_singleton.2 rfl)).1
         refine aj (.bool true) (aN 9 101 true true rfl rfl ((hw 101 9 rfl).trans (hd 9 rfl))) (by simp[execOp,go_sem,E102,h10,m3.cell]) rfl
        ·intro ρ y W L hw hn hLi hLd hb hd;have E106:=hw 106 14 rfl;have h14:y 14=_:=hd 14 rfl
         have EC:∀v,ρ (.const v)=v:=fun v=>hn (.const v) trivial
         have EF:∀f,ρ (.func f) = .func (.func f) #[] #[]:=fun f=>hn (.func f) trivial
         refine eF _ _ (aN 13 105 true true rfl rfl ((hw 105 13 rfl).trans (hd 13 rfl))) (aK rfl (EF _) Tryz.func30 (by kernel_rfl) (by kernel_rfl) (by simp only[List.map_toArray,List.map_cons,List.map_nil,E106,h14,EC,EF];rfl)) ?_
         exact rV 2 (by omega) hb fun x h1 _ _ _=>⟨x,rfl,h1⟩
        ·intro ρ y W L hw hn hLi hLd hb hd
         refine bY aD (fun _ _ h=>h) hb ?_
         have E107:=hw 107 15 rfl
         have h15:=hd 15 rfl
         obtain⟨x,hx,_⟩:=h15
         refine aj _ (aN 13 105 true true rfl rfl ((hw 105 13 rfl).trans (hd 13 rfl))) (kE rfl (E107.trans hx) (hn (.const _) trivial) (by simp[go_sem];rfl)) ⟨_,rfl⟩
        ·intro ρ y W L hw hn hLi hLd hb hd
         refine bY aD (fun _ _ h=>h) hb ?_
         have E105:=hw 105 13 rfl
         have h13:y 13=_:=hd 13 rfl
         have E108:=hw 108 16 rfl
         have h16:=hd 16 rfl
         obtain⟨u,hu⟩:=h16
         refine aj (.bool u) (ah rfl) (kK rfl (E105.trans h13) (by simpa using E108.trans hu)) ⟨_,fun _=>rfl,rfl⟩
        ·intro ρ y W L hw hn hLi hLd hb hd
         refine bY aD (fun _ _ h=>h) hb ?_
         have E98:=hw 98 6 rfl
         have h6:y 6=_:=hd 6 rfl
         have E109:=hw 109 17 rfl
         have h17:=hd 17 rfl
         obtain⟨u,hu1,hu⟩:=h17
         have EC:∀v,ρ (.const v)=v:=fun v=>hn (.const v) trivial
         refine aj (.agg #[.int .i64 1,.int .i64 (f:Int),.bool u]) (ah rfl) (by simp[execOp,go_sem,E98,h6,E109,EC,hu]) ⟨u,hu1,rfl⟩
        intro y W6 hbW6 hRW6
        have hy15:((aQ fun v => ∃x:Int,v = .int .i64 x∧0≤x)).r (y 15) W6:=hRW6 15 (by decide)
        have hy16:((aQ fun v => ∃u,v = .bool u)).r (y 16) W6:=hRW6 16 (by decide)
        have hy17:((aQ fun v => ∃u,(u=true→true=true)∧v = .bool u)).r (y 17) W6:=hRW6 17 (by decide)
        have hy18:((aQ fun v => ∃u,(u=true→true=true)∧v = .agg #[.int .i64 1,.int .i64 (f:Int),.bool u])).r (y 18) W6:=hRW6 18 (by decide)
        clear hRW6
        obtain⟨a6,c6,l6,h6,s6,_⟩:=hbW6
        obtain⟨u,hu1,hu⟩:=hy18
        rw[hu]
        clear hu
        obtain⟨gT',oT',curT,hab',hgTB,hgT,hgTs,_,hgTw⟩:=dm.ent (S:=S5.lst a6 c6 l6) h6 (p:=p) (n:=n) hpT5.out hn (hTn5.out _ rfl)
        have e9:(some (⟨gT',oT',none⟩:Addr))=some ⟨gT,oT,none⟩:=hab'.symm.trans hab
        cases e9
        have hpTi:(p:Int)<(S5.T.length:Int):=by have:=hpT5.out;omega
        have hni:(n:Int)<64:=by omega
        have hgTw':=Lib.hid hgTw
        have s6:=s5.trans s6
        clear hgTw hab' h5 s5
        go_wp2_with (refine aC rfl _ _ _ rfl gT (oT+p*192+n*3) _ (ik ⟨1,f,u⟩) rfl rfl rfl _ _ hgT (by rw[dF];exact hgTs) (by kernel_rfl) (bv (eY _)) ?_)
        intro w7 hb7 hg7
        have h7:=hgTw'.out w7 ⟨1,f,u⟩ hb7 hg7
        have s7:=s6.put (H':={ S5.lst a6 c6 l6 with T:=setL (S5.lst a6 c6 l6).T p n ⟨1,f,u⟩ }) hg7 (.inr (by simp only[dZ,MW.lst,hab];simp[oB];right;right;right;right;right;right;right;right;rfl)) (fun x hx => .inl hx)
        clear hgT hb7 hg7 h6 s6
        go_wp2
        refine bodyPost_ret (v:=.tuple #[]) (by simp[results,go_sem,Tryz.results65]) rfl ?_
        exact⟨_,rfl,h7,s7,⟨hK5.out.sp,hK5.out.fi,hK5.out.ct,hK5.out.dk,hK5.out.fl,hK5.out.sl⟩,hbdu.out u (fun h=>by first | exact trivial | exact⟨rfl,rfl⟩ | exact absurd (hu1 h) (by decide) | simp),hent5.out _⟩
       | false=>
        skip
        refine dN 20 [_,_,_,.v (.slice (some ⟨gT,oT,none⟩) S5.T.length S5.cb),_,.v (.int .i64 (n:Int)),_,_,.v (.bool true),_,_,.v (.bool false),_,_,_,_,_,.r 17 ((aQ fun v => ∃u,(u=true→false=true)∧v = .bool u)),.r 18 ((aQ fun v => ∃u,(u=true→false=true)∧v = .agg #[.int .i64 1,.int .i64 (f:Int),.bool u])),_] (DR S5 B b w5 [(w.heap.size,#[.bool true,.bool grd,.bool false,.bool true,.int .i64 (F:Int),.int .i64 (I:Int)],109)]) aD (fun _=>⟨S5.al,S5.cl,S5.l,h5,MS.refl _ _ _,by simpa using ⟨bx5,hn5.out⟩⟩) (Qk aD rfl (Qk aD rfl (Qf aD b 12 rfl rfl (ag ?_ (Qk aD rfl (Qk aD rfl (Qk aD rfl (Qf aD w.heap.size 3 rfl rfl (ag ?_ (Qk aD rfl (Qf aD w.heap.size 2 rfl rfl (ag ?_ (Qk aD rfl (Qk aD rfl (Qk aD rfl (Qk aD rfl (Qk aD rfl (ag ?_ (ag ?_ (Qr aD (.pointer (some ⟨gT,oT+p*192,none⟩)) (fun ρ y W hKn=>(aU rfl (aA rfl hKn) (aA rfl hKn) hpT5.out Tryz.underlying75 ents_size)) rfl rfl (aB))))))))))))))))))))) (fun _=>rfl) rfl ?_
        ·intro ρ y W L hw hn hLi hLd hb hd
         refine bY aD (fun _ _ h=>h) hb ?_
         have E94:=hw 94 2 rfl
         have h2:y 2=_:=hd 2 rfl
         obtain⟨a,c,l,m1,m2,m3⟩:=hb
         refine aj (.slice (some ⟨gT,oT,none⟩) S5.T.length S5.cb) (ah rfl) (by simp[execOp,go_sem,E94,h2,m1.blk.cell,eP,MW.lst,hab]) rfl
        ·intro ρ y W L hw hn hLi hLd hb hd
         refine bY aD (fun _ _ h=>h) hb ?_
         have E99:=hw 99 7 rfl
         have h7:y 7=_:=hd 7 rfl
         obtain⟨a,c,l,m1,m2,m3⟩:=hb
         have m3:=(m3 _ (List.mem_singleton.2 rfl)).1
         refine aj (.bool true) (ah rfl) (by simp[execOp,go_sem,E99,h7,m3.cell]) rfl
        ·intro ρ y W L hw hn hLi hLd hb hd
         refine bY aD (fun _ _ h=>h) hb ?_
         have E102:=hw 102 10 rfl
         have h10:y 10=_:=hd 10 rfl
         obtain⟨a,c,l,m1,m2,m3⟩:=hb
         have m3:=(m3 _ (List.mem_singleton.2 rfl)).1
         refine aj (.bool false) (aN 9 101 true true rfl rfl ((hw 101 9 rfl).trans (hd 9 rfl))) (by simp[execOp,go_sem,E102,h10,m3.cell]) rfl
        ·intro ρ y W L hw hn hLi hLd hb hd
         refine bY aD (fun _ _ h=>h) hb ?_
         have E105:=hw 105 13 rfl
         have h13:y 13=_:=hd 13 rfl
         have E108:=hw 108 16 rfl
         have h16:y 16=_:=hd 16 rfl
         refine aj (.bool false) (ah rfl) (kK rfl (E105.trans h13) (by exact (hn (.const _) trivial).trans rfl)) ⟨false,fun h=>(by cases h),rfl⟩
        ·intro ρ y W L hw hn hLi hLd hb hd
         refine bY aD (fun _ _ h=>h) hb ?_
         have E98:=hw 98 6 rfl
         have h6:y 6=_:=hd 6 rfl
         have E109:=hw 109 17 rfl
         have h17:=hd 17 rfl
         obtain⟨u,hu1,hu⟩:=h17
         have EC:∀v,ρ (.const v)=v:=fun v=>hn (.const v) trivial
         refine aj (.agg #[.int .i64 1,.int .i64 (f:Int),.bool u]) (ah rfl) (by simp[execOp,go_sem,E98,h6,E109,EC,hu]) ⟨u,hu1,rfl⟩
        intro y W6 hbW6 hRW6
        have hy17:((aQ fun v => ∃u,(u=true→false=true)∧v = .bool u)).r (y 17) W6:=hRW6 17 (by decide)
        have hy18:((aQ fun v => ∃u,(u=true→false=true)∧v = .agg #[.int .i64 1,.int .i64 (f:Int),.bool u])).r (y 18) W6:=hRW6 18 (by decide)
        clear hRW6
        obtain⟨a6,c6,l6,h6,s6,_⟩:=hbW6
        obtain⟨u,hu1,hu⟩:=hy18
        rw[hu]
        clear hu
        obtain⟨gT',oT',curT,hab',hgTB,hgT,hgTs,_,hgTw⟩:=dm.ent (S:=S5.lst a6 c6 l6) h6 (p:=p) (n:=n) hpT5.out hn (hTn5.out _ rfl)
        have e9:(some (⟨gT',oT',none⟩:Addr))=some ⟨gT,oT,none⟩:=hab'.symm.trans hab
        cases e9
        have hpTi:(p:Int)<(S5.T.length:Int):=by have:=hpT5.out;omega
        have hni:(n:Int)<64:=by omega
        have hgTw':=Lib.hid hgTw
        have s6:=s5.trans s6
        clear hgTw hab' h5 s5
        go_wp2_with (refine aC rfl _ _ _ rfl gT (oT+p*192+n*3) _ (ik ⟨1,f,u⟩) rfl rfl rfl _ _ hgT (by rw[dF];exact hgTs) (by kernel_rfl) (bv (eY _)) ?_)
        intro w7 hb7 hg7
        have h7:=hgTw'.out w7 ⟨1,f,u⟩ hb7 hg7
        have s7:=s6.put (H':={ S5.lst a6 c6 l6 with T:=setL (S5.lst a6 c6 l6).T p n ⟨1,f,u⟩ }) hg7 (.inr (by simp only[dZ,MW.lst,hab];simp[oB];right;right;right;right;right;right;right;right;rfl)) (fun x hx => .inl hx)
        clear hgT hb7 hg7 h6 s6
        go_wp2
        refine bodyPost_ret (v:=.tuple #[]) (by simp[results,go_sem,Tryz.results65]) rfl ?_
        exact⟨_,rfl,h7,s7,⟨hK5.out.sp,hK5.out.fi,hK5.out.ct,hK5.out.dk,hK5.out.fl,hK5.out.sl⟩,hbdu.out u (fun h=>by first | exact trivial | exact⟨rfl,rfl⟩ | exact absurd (hu1 h) (by decide) | simp),hent5.out _⟩
      | false=>
       skip
       refine dN 20 [_,_,_,.v (.slice (some ⟨gT,oT,none⟩) S5.T.length S5.cb),_,.v (.int .i64 (n:Int)),_,_,.v (.bool false),_,_,_,_,_,_,_,_,.r 17 ((aQ fun v => ∃u,(u=true→false=true)∧v = .bool u)),.r 18 ((aQ fun v => ∃u,(u=true→false=true)∧v = .agg #[.int .i64 1,.int .i64 (f:Int),.bool u])),_] (DR S5 B b w5 [(w.heap.size,#[.bool true,.bool grd,.bool gwr,.bool false,.int .i64 (F:Int),.int .i64 (I:Int)],109)]) aD (fun _=>⟨S5.al,S5.cl,S5.l,h5,MS.refl _ _ _,by simpa using ⟨bx5,hn5.out⟩⟩) (Qk aD rfl (Qk aD rfl (Qf aD b 12 rfl rfl (ag ?_ (Qk aD rfl (Qk aD rfl (Qk aD rfl (Qf aD w.heap.size 3 rfl rfl (ag ?_ (Qk aD rfl (Qk aD rfl (Qk aD rfl (Qk aD rfl (Qk aD rfl (Qk aD rfl (Qk aD rfl (Qk aD rfl (ag ?_ (ag ?_ (Qr aD (.pointer (some ⟨gT,oT+p*192,none⟩)) (fun ρ y W hKn=>(aU rfl (aA rfl hKn) (aA rfl hKn) hpT5.out Tryz.underlying75 ents_size)) rfl rfl (aB))))))))))))))))))))) (fun _=>rfl) rfl ?_
       ·intro ρ y W L hw hn hLi hLd hb hd
        refine bY aD (fun _ _ h=>h) hb ?_
        have E94:=hw 94 2 rfl
        have h2:y 2=_:=hd 2 rfl
        obtain⟨a,c,l,m1,m2,m3⟩:=hb
        refine aj (.slice (some ⟨gT,oT,none⟩) S5.T.length S5.cb) (ah rfl) (by simp[execOp,go_sem,E94,h2,m1.blk.cell,eP,MW.lst,hab]) rfl
       ·intro ρ y W L hw hn hLi hLd hb hd
        refine bY aD (fun _ _ h=>h) hb ?_
        have E99:=hw 99 7 rfl
        have h7:y 7=_:=hd 7 rfl
        obtain⟨a,c,l,m1,m2,m3⟩:=hb
        have m3:=(m3 _ (List.mem_singleton.2 rfl)).1
        refine aj (.bool false) (ah rfl) (by simp[execOp,go_sem,E99,h7,m3.cell]) rfl
       ·intro ρ y W L hw hn hLi hLd hb hd
        refine bY aD (fun _ _ h=>h) hb ?_
        have E105:=hw 105 13 rfl
        have h13:y 13=_:=hd 13 rfl
        have E108:=hw 108 16 rfl
        have h16:y 16=_:=hd 16 rfl
        refine aj (.bool false) (ah rfl) (kK rfl (E105.trans h13) (by exact (hn (.const _) trivial).trans rfl)) ⟨false,fun h=>(by cases h),rfl⟩
       ·intro ρ y W L hw hn hLi hLd hb hd
        refine bY aD (fun _ _ h=>h) hb ?_
        have E98:=hw 98 6 rfl
        have h6:y 6=_:=hd 6 rfl
        have E109:=hw 109 17 rfl
        have h17:=hd 17 rfl
        obtain⟨u,hu1,hu⟩:=h17
        have EC:∀v,ρ (.const v)=v:=fun v=>hn (.const v) trivial
        refine aj (.agg #[.int .i64 1,.int .i64 (f:Int),.bool u]) (ah rfl) (by simp[execOp,go_sem,E98,h6,E109,EC,hu]) ⟨u,hu1,rfl⟩
       intro y W6 hbW6 hRW6
       have hy17:((aQ fun v => ∃u,(u=true→false=true)∧v = .bool u)).r (y 17) W6:=hRW6 17 (by decide)
       have hy18:((aQ fun v => ∃u,(u=true→false=true)∧v = .agg #[.int .i64 1,.int .i64 (f:Int),.bool u])).r (y 18) W6:=hRW6 18 (by decide)
       clear hRW6
       obtain⟨a6,c6,l6,h6,s6,_⟩:=hbW6
       obtain⟨u,hu1,hu⟩:=hy18
       rw[hu]
       clear hu
       obtain⟨gT',oT',curT,hab',hgTB,hgT,hgTs,_,hgTw⟩:=dm.ent (S:=S5.lst a6 c6 l6) h6 (p:=p) (n:=n) hpT5.out hn (hTn5.out _ rfl)
       have e9:(some (⟨gT',oT',none⟩:Addr))=some ⟨gT,oT,none⟩:=hab'.symm.trans hab
       cases e9
       have hpTi:(p:Int)<(S5.T.length:Int):=by have:=hpT5.out;omega
       have hni:(n:Int)<64:=by omega
       have hgTw':=Lib.hid hgTw
       have s6:=s5.trans s6
       clear hgTw hab' h5 s5
       go_wp2_with (refine aC rfl _ _ _ rfl gT (oT+p*192+n*3) _ (ik ⟨1,f,u⟩) rfl rfl rfl _ _ hgT (by rw[dF];exact hgTs) (by kernel_rfl) (bv (eY _)) ?_)
       intro w7 hb7 hg7
       have h7:=hgTw'.out w7 ⟨1,f,u⟩ hb7 hg7
       have s7:=s6.put (H':={ S5.lst a6 c6 l6 with T:=setL (S5.lst a6 c6 l6).T p n ⟨1,f,u⟩ }) hg7 (.inr (by simp only[dZ,MW.lst,hab];simp[oB];right;right;right;right;right;right;right;right;rfl)) (fun x hx => .inl hx)
       clear hgT hb7 hg7 h6 s6
       go_wp2
       refine bodyPost_ret (v:=.tuple #[]) (by simp[results,go_sem,Tryz.results65]) rfl ?_
       exact⟨_,rfl,h7,s7,⟨hK5.out.sp,hK5.out.fi,hK5.out.ct,hK5.out.dk,hK5.out.fl,hK5.out.sl⟩,hbdu.out u (fun h=>by first | exact trivial | exact⟨rfl,rfl⟩ | exact absurd (hu1 h) (by decide) | simp),hent5.out _⟩
   ·rw[decide_eq_false hF]
    obtain rfl:gsh=false:=by
     cases gsh with
     | false=>rfl
     | true=>exact absurd ⟨hsh rfl,.inl rfl⟩ hF
    have hfew:=Lib.hid hd'.out.few
    have hsl60:S.H.sl.length≤60:=hfew.out.2.1
    have hc:=h2.blk.cell
    unfold eP at hc
    dsimp only[MW.lst] at hc
    clear hF hsh
    go_upto_region 12 with (fail)
    go_cut [113] (fun s113 wx=>s113 = .bool (decide (x=2∧0<S.H.sl.length))∧wx=w2)
    case first=>
     by_cases hx2:x=2
     ·have hx2b:(x==2)=true:=by simp[hx2]
      have hx2':=Lib.hid hx2
      clear hx2
      by_cases hsl:0<S.H.sl.length
      ·have hsli:(0:Int)<(S.H.sl.length:Int):=by omega
       go_wp2
       go_meet
       case rel=>exact⟨by rw[decide_eq_true ⟨hx2'.out,hsl⟩],rfl⟩
      ·have hsli:¬(0:Int)<(S.H.sl.length:Int):=by omega
       go_wp2
       go_meet
       case rel=>exact⟨by rw[decide_eq_false (fun h=>hsl h.2)],rfl⟩
     ·have hx2b:(x==2)=false:=by simp[hx2]
      go_wp2
      go_meet
      case rel=>exact⟨by rw[decide_eq_false (fun h=>hx2 h.1)],rfl⟩
    case rest=>
     obtain⟨rfl,hwc⟩:=hcut
     subst wc
     by_cases hS:x=2∧0<S.H.sl.length
     ·rw[decide_eq_true hS]
      have hsl:=hS.2
      clear hS
      go_wp2_with fail
      refine (dH _ _ B b _ h2 (by omega)).mono ?_
      rintro r w3 ⟨y3,a3,c3,l3,rfl,h3,s3,hy3,_⟩
      rw[jN] at h3 s3
      have s3:=s2.trans s3
      obtain⟨s0,rfl⟩:=Int.eq_ofNat_of_zero_le hy3.1
      have hs0:s0<S.H.sl.length:=by omega
      have hs0i:(s0:Int)<(S.H.sl.length:Int):=by omega
      clear h2 s2 bx2 hcx hc hy3
      have hc:=h3.blk.cell
      unfold eP at hc
      dsimp only[MW.lst] at hc
      obtain⟨gs,off,cap,cur,hv,hgB,hgk,hgs,hgc,hgw⟩:=Own.put (enc:=fun x=>[dL x]) (sz:=1) (l:=S.H.sl) (fun _=>rfl) Nat.one_pos (by rw[kP];exact h3.ma.sl) s0 hs0
      have has:S.H.asl=some ⟨gs,off,none⟩:=(Value.slice.inj hv).1
      rw[has] at hc
      rw[Nat.mul_one] at hgs hgc hgw
      have c0:w3.cell? ⟨gs,off+s0,none⟩=some (.int .i64 S.H.sl[s0]):=hgc 0 _ rfl
      have hz0:Hid (fK S.H.ma s0=S.H.sl[s0]):=Lib.hid (by
       unfold fK
       show S.H.sl.getD s0 0=_
       rw[List.getD_eq_getElem?_getD,List.getElem?_eq_getElem hs0];rfl)
      have hgw':=Lib.hid hgw
      clear hv hgw hgc
      generalize S.H.sl[s0]=v0 at c0 hz0
      by_cases hz:v0=0
      ·subst hz
       go_wp2_with (refine aC rfl _ _ _ rfl gs (off+s0) _ [.int .i64 1] rfl rfl rfl _ _ hgk (by show off+s0+1≤cur.size;omega) (by kernel_rfl) (fun u hu=>by cases List.mem_singleton.1 hu;rfl) ?_)
       intro w4 hb4 hg4
       have hga:oB (S.lst a3 c3 l3).H.asl=some gs:=by show oB S.H.asl=some gs;rw[has];rfl
       have h4:dm w4 B b { S.lst a3 c3 l3 with H:={ S.H with sl:=S.H.sl.set s0 1 } }:=h3.putS hgk hgB hga hg4 (sl:=S.H.sl.set s0 1) (by simp[MW.lst]) (by
        have:=hgw'.out w4 1 hb4
        rw[kP] at this
        simpa[MW.lst] using this)
       have s4:=s3.put (H':={ S.lst a3 c3 l3 with H:={ S.H with sl:=S.H.sl.set s0 1 } }) hg4 (.inr (by simp[dZ,hga])) (fun x hx => .inl hx)
       have hswl:S.H.sw.blocks.length=S.H.sl.length:=hfew.out.2.2.2.2.2.2.2
       have hK4:Hid (Ah S { S.lst a3 c3 l3 with H:={ S.H with sl:=S.H.sl.set s0 1 } }):=Lib.hid ⟨rfl,rfl,rfl,rfl,rfl,List.length_set⟩
       have hTl:S.T.length=S.H.sp.length:=by have:=hd'.out.ok.len;rw[this];exact List.length_map _
       have hpT:p<S.T.length:=by omega
       have h64:(dE S.T p).length=64:=hd'.out.ok.l64 (by rw[←hd'.out.ok.len];exact hpT)
       have hbdu:Hid (∀P,Bd { S.H.ma with sl:=S.H.sl.set s0 1,sw:=⟨S.H.sw.blocks.set s0 P,S.H.sw.queue⟩ } (setL S.T p n ⟨2,s0,false⟩)):=Lib.hid fun P=>
        hd'.out.slotE (P:=P) (by rw[←hd'.out.ok.len];exact hpT) hn h0'.out hs0 hz0.out hg'.out rfl
       have hent5:Hid (∀x q j,¬(q=p∧j=n)→dG (setL S.T p n x) q j=dG S.T q j):=Lib.hid fun x q j hne=>by
        rw[oI hd'.out.ok (by rw[←hd'.out.ok.len];exact hpT) hn,if_neg hne]
       obtain⟨gw,ow,capw,curw,hvw,hgwB,_,_,_,_⟩:=h4.ma.sw.b.put jF (by decide) s0 (by show s0<S.H.sw.blocks.length;omega)
       have haw:S.H.wb=some ⟨gw,ow,none⟩:=(Value.slice.inj hvw).1
       generalize hS4:({ S.lst a3 c3 l3 with H:={ S.H with sl:=S.H.sl.set s0 1 } }:MW)=S4 at h4 s4 hK4
       have haw:S4.H.wb=some ⟨gw,ow,none⟩:=by rw[←hS4];exact haw
       have hsw4:S4.H.sw=S.H.sw:=by rw[←hS4]
       clear h3 s3 hb4 hg4 hgk hgs c0 hc has hga hvw
       go_upto_region 16 with (fail)
       refine dN 9 [_,_,_,_,_,.v (.slice (some ⟨gw,ow,none⟩) S4.H.sw.blocks.length S4.H.cwb),.v (.int .i64 (s0:Int)),_,.r 8 ((aQ fun v => ∃P,v = .agg (dW P)))] (DR S4 B b w4 []) aD (fun _=>⟨S4.al,S4.cl,S4.l,h4,MS.refl _ _ _,fun t ht=>(by cases ht)⟩) (Qk aD rfl (Qk aD rfl (Qf aD b 1 rfl rfl (Qf aD b 4 rfl rfl (Qf aD b 4 rfl rfl (ag ?_ (Qk aD rfl (Qk aD rfl (ag ?_ (aB)))))))))) (fun _=>rfl) rfl ?_
       ·intro ρ y W L hw hn hLi hLd hb hd
        refine bY aD (fun _ _ h=>h) hb ?_
        have E153:=hw 153 4 rfl
        have h4:y 4=_:=hd 4 rfl
        obtain⟨a,c,l,m1,m2,m3⟩:=hb
        refine aj (.slice (some ⟨gw,ow,none⟩) S4.H.sw.blocks.length S4.H.cwb) (ah rfl) (by simp[execOp,go_sem,E153,h4,m1.blk.cell,eP,MW.lst,haw]) rfl
       ·intro ρ y W L hw hn hLi hLd hb hd;have E156:=hw 156 7 rfl;have h7:y 7=_:=hd 7 rfl
        have EF:∀f,ρ (.func f) = .func (.func f) #[] #[]:=fun f=>hn (.func f) trivial
        refine eF _ _ (ah rfl) (aK rfl (EF _) Tryz.func33 (by kernel_rfl) (by kernel_rfl) (by simp only[List.map_toArray,List.map_cons,List.map_nil,E156,h7,EF];rfl)) ?_
        exact Io hb fun P _=>⟨P,rfl⟩
       intro y W6 hbW6 hRW6
       have hy8:((aQ fun v => ∃P,v = .agg (dW P))).r (y 8) W6:=hRW6 8 (by decide)
       clear hRW6
       obtain⟨a6,c6,l6,h6,s6,_⟩:=hbW6
       obtain⟨P,hP⟩:=hy8
       rw[hP]
       clear hP
       have s6:=s4.trans s6
       obtain⟨gw',ow',capw',curw',hvw',hgwB',hgwk,hgws,_,hgww⟩:=h6.ma.sw.b.put jF (by decide) s0 (by show s0<S4.H.sw.blocks.length;rw[hsw4];omega)
       have e9:(some (⟨gw',ow',none⟩:Addr))=some ⟨gw,ow,none⟩:=(Value.slice.inj hvw').1.symm.trans haw
       cases e9
       have hsi:(s0:Int)<(S4.H.sw.blocks.length:Int):=by rw[hsw4];omega
       have hgww':=Lib.hid hgww
       clear hvw' hgww h4 s4
       go_wp2_with (refine aC rfl _ _ _ rfl gw (ow+s0*8) _ (vJ P) rfl rfl rfl _ _ hgwk (by rw[jF];exact hgws) (by kernel_rfl) (bv (eD P)) ?_)
       intro w7 hb7 hg7
       have hgaw:oB (S4.lst a6 c6 l6).H.wb=some gw:=by show oB S4.H.wb=some gw;rw[haw];rfl
       have h7:dm w7 B b { S4.lst a6 c6 l6 with H:={ S4.H with sw:=⟨S4.H.sw.blocks.set s0 P,S4.H.sw.queue⟩ } }:=h6.putW hgwk hgwB' hgaw hg7 (l:=S4.H.sw.blocks.set s0 P) (by simp[MW.lst]) (by simpa[MW.lst] using hgww'.out w7 P hb7)
       have s7:=s6.put (H':={ S4.lst a6 c6 l6 with H:={ S4.H with sw:=⟨S4.H.sw.blocks.set s0 P,S4.H.sw.queue⟩ } }) hg7 (.inr (by simp[dZ,hgaw])) (fun x hx => .inl hx)
       clear h6 s6 hgwk hb7 hg7 hgws hsi
       subst hS4
       dsimp only[MW.lst] at h7 s7
       obtain⟨gT,oT,curT,hab,hgTB,hgT,hgTs,_,hgTw⟩:=dm.ent h7 (p:=p) (n:=n) hpT hn h64
       have hab:S.ab=some ⟨gT,oT,none⟩:=hab
       have hc:=h7.blk.cell
       unfold eP at hc
       dsimp only at hc
       rw[hab] at hc
       have hpTi:(p:Int)<(S.T.length:Int):=by omega
       have hni:(n:Int)<64:=by omega
       have hgTw':=Lib.hid hgTw
       clear hgTw
       go_wp2_with (refine aC rfl _ _ _ rfl gT (oT+p*192+n*3) _ (ik ⟨2,s0,false⟩) rfl rfl rfl _ _ hgT (by rw[dF];exact hgTs) (by kernel_rfl) (bv (eY _)) ?_)
       intro w8 hb8 hg8
       have h8:=hgTw'.out w8 ⟨2,s0,false⟩ hb8 hg8
       have s8:=s7.put hg8 (.inr (by simp only[dZ,hab];simp[oB];right;right;right;right;right;right;right;right;rfl)) (fun x hx => .inl hx) (H':=_)
       clear h7 s7 hc hb8 hg8 hgT
       go_wp2
       refine bodyPost_ret (v:=.tuple #[]) (by simp[results,go_sem,Tryz.results65]) rfl ?_
       exact⟨_,rfl,h8,s8.same rfl,⟨rfl,rfl,rfl,rfl,rfl,List.length_set⟩,hbdu.out P,hent5.out _⟩
      ·go_wp2
       refine bodyPost_ret (v:=.tuple #[]) (by simp[results,go_sem,Tryz.results65]) rfl ?_
       exact⟨_,rfl,h3,s3,⟨rfl,rfl,rfl,rfl,rfl,rfl⟩,hd'.out,fun _ _ _=>rfl⟩
     ·rw[decide_eq_false hS]
      clear hS hc
      go_wp2_with fail
      refine (pE _ B b _ h2).mono ?_
      rintro r w3 ⟨P,a3,c3,l3,rfl,h3,s3⟩
      rw[jN] at h3 s3
      have bx3:=s3.blkN bx2 hn0.out
      have s3:=s2.trans s3
      clear h2 s2 bx2 hcx
      have hcx:=bx3.cell
      unfold dW
      go_wp2_with fail
      refine (dH _ 2 B b _ h3 (by omega)).mono ?_
      rintro r w4 ⟨y3,a4,c4,l4,rfl,h4,s4,_,_⟩
      rw[jN] at h4 s4
      have bx4:=s4.blkN bx3 hn0.out
      have s4:=s3.trans s4
      clear h3 s3 bx3 hcx
      have hcx:=bx4.cell
      go_wp2_with fail
      refine (wJ _ ⟨P,1,y3==1,false,-1,0⟩ B b _ h4 (by have:=hfew.out.1;show S.H.m.fs.length≤1000;have e:S.H.ma.m.fs.length=S.H.m.fs.length:=rfl;omega)).mono ?_
      rintro r w5 ⟨xf,a5,c5,l5,fs,rfl,h5,s5,hxf⟩
      rw[jN] at h5 s5
      have bx5:=s5.blkN bx4 hn0.out
      have hn5:=Lib.hid (s5.not bx4.lt hn0.out)
      have s5:=s4.trans s5
      clear h4 s4 bx4 hcx
      rcases hxf with ⟨rfl,rfl⟩|⟨f,rfl,hj,hjr,rfl⟩
      ·go_wp2
       refine bodyPost_ret (v:=.tuple #[]) (by simp[results,go_sem,Tryz.results65]) rfl ?_
       exact⟨_,rfl,h5,s5,⟨rfl,rfl,rfl,rfl,rfl,rfl⟩,hd'.out,fun _ _ _=>rfl⟩
      ·have hjl:f<S.H.m.fs.length:=hj
       have hTl:S.T.length=S.H.sp.length:=by have:=hd'.out.ok.len;rw[this];exact List.length_map _
       have hpT:p<S.T.length:=by omega
       have hbdu:Hid (∀u:Bool,(u=true→gwr=true)→Bd ((S.lst a5 c5 l5).frs (S.H.m.fs.set f ⟨P,1,y3==1,false,-1,0⟩)).H.ma (setL ((S.lst a5 c5 l5).frs (S.H.m.fs.set f ⟨P,1,y3==1,false,-1,0⟩)).T p n ⟨1,f,u⟩)):=Lib.hid fun u hu=>
        hd'.out.anonE (X:=⟨P,1,y3==1,false,-1,0⟩) (w:=u) (by rw[←hd'.out.ok.len];exact hpT) hn h0'.out hjl hjr ⟨rfl,rfl,rfl,rfl⟩ hg'.out rfl hu
       have hK5:Hid (Ah S ((S.lst a5 c5 l5).frs (S.H.m.fs.set f ⟨P,1,y3==1,false,-1,0⟩))):=Lib.hid ⟨rfl,rfl,rfl,rfl,List.length_set,rfl⟩
       have hent5:Hid (∀x q j,¬(q=p∧j=n)→dG (setL ((S.lst a5 c5 l5).frs (S.H.m.fs.set f ⟨P,1,y3==1,false,-1,0⟩)).T p n x) q j=dG S.T q j):=Lib.hid fun x q j hne=>by
        show dG (setL S.T p n x) q j=_
        rw[oI hd'.out.ok (by rw[←hd'.out.ok.len];exact hpT) hn,if_neg hne]
       have hpT5:Hid (p<((S.lst a5 c5 l5).frs (S.H.m.fs.set f ⟨P,1,y3==1,false,-1,0⟩)).T.length):=Lib.hid hpT
       have hTn5:Hid (∀S' : MW,S'.T=((S.lst a5 c5 l5).frs (S.H.m.fs.set f ⟨P,1,y3==1,false,-1,0⟩)).T→(dE S'.T p).length=64):=Lib.hid fun S' e=>by rw[e];exact hd'.out.ok.l64 (by rw[←hd'.out.ok.len];exact hpT)
       have h5:dm w5 B b ((S.lst a5 c5 l5).frs (S.H.m.fs.set f ⟨P,1,y3==1,false,-1,0⟩)):=h5
       have s5:MS w b S w5 ((S.lst a5 c5 l5).frs (S.H.m.fs.set f ⟨P,1,y3==1,false,-1,0⟩)):=s5
       have hn5:Hid (¬iY b ((S.lst a5 c5 l5).frs (S.H.m.fs.set f ⟨P,1,y3==1,false,-1,0⟩)) w.heap.size):=hn5
       have hf0:(0:Int)≤(f:Int):=by omega
       clear hj hjr hpT hTl
       generalize (S.lst a5 c5 l5).frs (S.H.m.fs.set f ⟨P,1,y3==1,false,-1,0⟩)=S5 at *
       obtain⟨gT,oT,_,hab,_⟩:=dm.ent (S:=S5) h5 (p:=p) (n:=n) hpT5.out hn (hTn5.out _ rfl)
       go_upto_region 4 with (fail)
       cases gwr with
       | true=>
        skip
        refine dN 16 [_,_,_,.v (.slice (some ⟨gT,oT,none⟩) S5.T.length S5.cb),_,.v (.int .i64 (n:Int)),_,_,.v (.bool true),_,_,.r 11 ((aQ fun v => ∃x:Int,v = .int .i64 x∧0≤x)),.r 12 ((aQ fun v => ∃u,v = .bool u)),.r 13 ((aQ fun v => ∃u,(u=true→true=true)∧v = .bool u)),.r 14 ((aQ fun v => ∃u,(u=true→true=true)∧v = .agg #[.int .i64 1,.int .i64 (f:Int),.bool u])),_] (DR S5 B b w5 [(w.heap.size,#[.bool true,.bool grd,.bool true,.bool false,.int .i64 gfi,.int .i64 (I:Int)],109)]) aD (fun _=>⟨S5.al,S5.cl,S5.l,h5,MS.refl _ _ _,by simpa using ⟨bx5,hn5.out⟩⟩) (Qk aD rfl (Qk aD rfl (Qf aD b 12 rfl rfl (ag ?_ (Qk aD rfl (Qk aD rfl (Qk aD rfl (Qf aD w.heap.size 2 rfl rfl (ag ?_ (Qk aD rfl (Qk aD rfl (ag ?_ (ag ?_ (ag ?_ (ag ?_ (Qr aD (.pointer (some ⟨gT,oT+p*192,none⟩)) (fun ρ y W hKn=>(aU rfl (aA rfl hKn) (aA rfl hKn) hpT5.out Tryz.underlying75 ents_size)) rfl rfl (aB))))))))))))))))) (fun _=>rfl) rfl ?_
        ·intro ρ y W L hw hn hLi hLd hb hd
         refine bY aD (fun _ _ h=>h) hb ?_
         have E26:=hw 26 2 rfl
         have h2:y 2=_:=hd 2 rfl
         obtain⟨a,c,l,m1,m2,m3⟩:=hb
         refine aj (.slice (some ⟨gT,oT,none⟩) S5.T.length S5.cb) (ah rfl) (by simp[execOp,go_sem,E26,h2,m1.blk.cell,eP,MW.lst,hab]) rfl
        ·intro ρ y W L hw hn hLi hLd hb hd
         refine bY aD (fun _ _ h=>h) hb ?_
         have E31:=hw 31 7 rfl
         have h7:y 7=_:=hd 7 rfl
         obtain⟨a,c,l,m1,m2,m3⟩:=hb
         have m3:=(m3 _ (List.mem_singleton.2 rfl)).1
         refine aj (.bool true) (ah rfl) (by simp[execOp,go_sem,E31,h7,m3.cell]) rfl
        ·intro ρ y W L hw hn hLi hLd hb hd;have E34:=hw 34 10 rfl;have h10:y 10=_:=hd 10 rfl
         have EC:∀v,ρ (.const v)=v:=fun v=>hn (.const v) trivial
         have EF:∀f,ρ (.func f) = .func (.func f) #[] #[]:=fun f=>hn (.func f) trivial
         refine eF _ _ (aN 9 33 true true rfl rfl ((hw 33 9 rfl).trans (hd 9 rfl))) (aK rfl (EF _) Tryz.func30 (by kernel_rfl) (by kernel_rfl) (by simp only[List.map_toArray,List.map_cons,List.map_nil,E34,h10,EC,EF];rfl)) ?_
         exact rV 2 (by omega) hb fun x h1 _ _ _=>⟨x,rfl,h1⟩
        ·intro ρ y W L hw hn hLi hLd hb hd
         refine bY aD (fun _ _ h=>h) hb ?_
         have E35:=hw 35 11 rfl
         have h11:=hd 11 rfl
         obtain⟨x,hx,_⟩:=h11
         refine aj _ (aN 9 33 true true rfl rfl ((hw 33 9 rfl).trans (hd 9 rfl))) (kE rfl (E35.trans hx) (hn (.const _) trivial) (by simp[go_sem];rfl)) ⟨_,rfl⟩
        ·intro ρ y W L hw hn hLi hLd hb hd
         refine bY aD (fun _ _ h=>h) hb ?_
         have E33:=hw 33 9 rfl
         have h9:y 9=_:=hd 9 rfl
         have E36:=hw 36 12 rfl
         have h12:=hd 12 rfl
         obtain⟨u,hu⟩:=h12
         refine aj (.bool u) (ah rfl) (kK rfl (E33.trans h9) (by simpa using E36.trans hu)) ⟨_,fun _=>rfl,rfl⟩
        ·intro ρ y W L hw hn hLi hLd hb hd
         refine bY aD (fun _ _ h=>h) hb ?_
         have E30:=hw 30 6 rfl
         have h6:y 6=_:=hd 6 rfl
         have E37:=hw 37 13 rfl
         have h13:=hd 13 rfl
         obtain⟨u,hu1,hu⟩:=h13
         have EC:∀v,ρ (.const v)=v:=fun v=>hn (.const v) trivial
         refine aj (.agg #[.int .i64 1,.int .i64 (f:Int),.bool u]) (ah rfl) (by simp[execOp,go_sem,E30,h6,E37,EC,hu]) ⟨u,hu1,rfl⟩
        intro y W6 hbW6 hRW6
        have hy11:((aQ fun v => ∃x:Int,v = .int .i64 x∧0≤x)).r (y 11) W6:=hRW6 11 (by decide)
        have hy12:((aQ fun v => ∃u,v = .bool u)).r (y 12) W6:=hRW6 12 (by decide)
        have hy13:((aQ fun v => ∃u,(u=true→true=true)∧v = .bool u)).r (y 13) W6:=hRW6 13 (by decide)
        have hy14:((aQ fun v => ∃u,(u=true→true=true)∧v = .agg #[.int .i64 1,.int .i64 (f:Int),.bool u])).r (y 14) W6:=hRW6 14 (by decide)
        clear hRW6
        obtain⟨a6,c6,l6,h6,s6,_⟩:=hbW6
        obtain⟨u,hu1,hu⟩:=hy14
        rw[hu]
        clear hu
        obtain⟨gT',oT',curT,hab',hgTB,hgT,hgTs,_,hgTw⟩:=dm.ent (S:=S5.lst a6 c6 l6) h6 (p:=p) (n:=n) hpT5.out hn (hTn5.out _ rfl)
        have e9:(some (⟨gT',oT',none⟩:Addr))=some ⟨gT,oT,none⟩:=hab'.symm.trans hab
        cases e9
        have hpTi:(p:Int)<(S5.T.length:Int):=by have:=hpT5.out;omega
        have hni:(n:Int)<64:=by omega
        have hgTw':=Lib.hid hgTw
        have s6:=s5.trans s6
        clear hgTw hab' h5 s5
        go_wp2_with (refine aC rfl _ _ _ rfl gT (oT+p*192+n*3) _ (ik ⟨1,f,u⟩) rfl rfl rfl _ _ hgT (by rw[dF];exact hgTs) (by kernel_rfl) (bv (eY _)) ?_)
        intro w7 hb7 hg7
        have h7:=hgTw'.out w7 ⟨1,f,u⟩ hb7 hg7
        have s7:=s6.put (H':={ S5.lst a6 c6 l6 with T:=setL (S5.lst a6 c6 l6).T p n ⟨1,f,u⟩ }) hg7 (.inr (by simp only[dZ,MW.lst,hab];simp[oB];right;right;right;right;right;right;right;right;rfl)) (fun x hx => .inl hx)
        clear hgT hb7 hg7 h6 s6
        go_wp2
        refine bodyPost_ret (v:=.tuple #[]) (by simp[results,go_sem,Tryz.results65]) rfl ?_
        exact⟨_,rfl,h7,s7,⟨hK5.out.sp,hK5.out.fi,hK5.out.ct,hK5.out.dk,hK5.out.fl,hK5.out.sl⟩,hbdu.out u (fun h=>by first | exact trivial | exact⟨rfl,rfl⟩ | exact absurd (hu1 h) (by decide) | simp),hent5.out _⟩
       | false=>
        skip
        refine dN 16 [_,_,_,.v (.slice (some ⟨gT,oT,none⟩) S5.T.length S5.cb),_,.v (.int .i64 (n:Int)),_,_,.v (.bool false),_,_,_,_,.r 13 ((aQ fun v => ∃u,(u=true→false=true)∧v = .bool u)),.r 14 ((aQ fun v => ∃u,(u=true→false=true)∧v = .agg #[.int .i64 1,.int .i64 (f:Int),.bool u])),_] (DR S5 B b w5 [(w.heap.size,#[.bool true,.bool grd,.bool false,.bool false,.int .i64 gfi,.int .i64 (I:Int)],109)]) aD (fun _=>⟨S5.al,S5.cl,S5.l,h5,MS.refl _ _ _,by simpa using ⟨bx5,hn5.out⟩⟩) (Qk aD rfl (Qk aD rfl (Qf aD b 12 rfl rfl (ag ?_ (Qk aD rfl (Qk aD rfl (Qk aD rfl (Qf aD w.heap.size 2 rfl rfl (ag ?_ (Qk aD rfl (Qk aD rfl (Qk aD rfl (Qk aD rfl (ag ?_ (ag ?_ (Qr aD (.pointer (some ⟨gT,oT+p*192,none⟩)) (fun ρ y W hKn=>(aU rfl (aA rfl hKn) (aA rfl hKn) hpT5.out Tryz.underlying75 ents_size)) rfl rfl (aB))))))))))))))))) (fun _=>rfl) rfl ?_
        ·intro ρ y W L hw hn hLi hLd hb hd
         refine bY aD (fun _ _ h=>h) hb ?_
         have E26:=hw 26 2 rfl
         have h2:y 2=_:=hd 2 rfl
         obtain⟨a,c,l,m1,m2,m3⟩:=hb
         refine aj (.slice (some ⟨gT,oT,none⟩) S5.T.length S5.cb) (ah rfl) (by simp[execOp,go_sem,E26,h2,m1.blk.cell,eP,MW.lst,hab]) rfl
        ·intro ρ y W L hw hn hLi hLd hb hd
         refine bY aD (fun _ _ h=>h) hb ?_
         have E31:=hw 31 7 rfl
         have h7:y 7=_:=hd 7 rfl
         obtain⟨a,c,l,m1,m2,m3⟩:=hb
         have m3:=(m3 _ (List.mem_singleton.2 rfl)).1
         refine aj (.bool false) (ah rfl) (by simp[execOp,go_sem,E31,h7,m3.cell]) rfl
        ·intro ρ y W L hw hn hLi hLd hb hd
         refine bY aD (fun _ _ h=>h) hb ?_
         have E33:=hw 33 9 rfl
         have h9:y 9=_:=hd 9 rfl
         have E36:=hw 36 12 rfl
         have h12:y 12=_:=hd 12 rfl
         refine aj (.bool false) (ah rfl) (kK rfl (E33.trans h9) (by exact (hn (.const _) trivial).trans rfl)) ⟨false,fun h=>(by cases h),rfl⟩
        ·intro ρ y W L hw hn hLi hLd hb hd
         refine bY aD (fun _ _ h=>h) hb ?_
         have E30:=hw 30 6 rfl
         have h6:y 6=_:=hd 6 rfl
         have E37:=hw 37 13 rfl
         have h13:=hd 13 rfl
         obtain⟨u,hu1,hu⟩:=h13
         have EC:∀v,ρ (.const v)=v:=fun v=>hn (.const v) trivial
         refine aj (.agg #[.int .i64 1,.int .i64 (f:Int),.bool u]) (ah rfl) (by simp[execOp,go_sem,E30,h6,E37,EC,hu]) ⟨u,hu1,rfl⟩
        intro y W6 hbW6 hRW6
        have hy13:((aQ fun v => ∃u,(u=true→false=true)∧v = .bool u)).r (y 13) W6:=hRW6 13 (by decide)
        have hy14:((aQ fun v => ∃u,(u=true→false=true)∧v = .agg #[.int .i64 1,.int .i64 (f:Int),.bool u])).r (y 14) W6:=hRW6 14 (by decide)
        clear hRW6
        obtain⟨a6,c6,l6,h6,s6,_⟩:=hbW6
        obtain⟨u,hu1,hu⟩:=hy14
        rw[hu]
        clear hu
        obtain⟨gT',oT',curT,hab',hgTB,hgT,hgTs,_,hgTw⟩:=dm.ent (S:=S5.lst a6 c6 l6) h6 (p:=p) (n:=n) hpT5.out hn (hTn5.out _ rfl)
        have e9:(some (⟨gT',oT',none⟩:Addr))=some ⟨gT,oT,none⟩:=hab'.symm.trans hab
        cases e9
        have hpTi:(p:Int)<(S5.T.length:Int):=by have:=hpT5.out;omega
        have hni:(n:Int)<64:=by omega
        have hgTw':=Lib.hid hgTw
        have s6:=s5.trans s6
        clear hgTw hab' h5 s5
        go_wp2_with (refine aC rfl _ _ _ rfl gT (oT+p*192+n*3) _ (ik ⟨1,f,u⟩) rfl rfl rfl _ _ hgT (by rw[dF];exact hgTs) (by kernel_rfl) (bv (eY _)) ?_)
        intro w7 hb7 hg7
        have h7:=hgTw'.out w7 ⟨1,f,u⟩ hb7 hg7
        have s7:=s6.put (H':={ S5.lst a6 c6 l6 with T:=setL (S5.lst a6 c6 l6).T p n ⟨1,f,u⟩ }) hg7 (.inr (by simp only[dZ,MW.lst,hab];simp[oB];right;right;right;right;right;right;right;right;rfl)) (fun x hx => .inl hx)
        clear hgT hb7 hg7 h6 s6
        go_wp2
        refine bodyPost_ret (v:=.tuple #[]) (by simp[results,go_sem,Tryz.results65]) rfl ?_
        exact⟨_,rfl,h7,s7,⟨hK5.out.sp,hK5.out.fi,hK5.out.ct,hK5.out.dk,hK5.out.fl,hK5.out.sl⟩,hbdu.out u (fun h=>by first | exact trivial | exact⟨rfl,rfl⟩ | exact absurd (hu1 h) (by decide) | simp),hent5.out _⟩
def Gt (B:Nat):iO:=⟨fun v w => ∃g,v = .pointer (some ⟨g,0,none⟩)∧aF w g (fC f0) 110∧B≤g,fun _ _ _ hb ⟨g,h1,h2,h3⟩=>⟨g,h1,h2.ext hb,h3⟩⟩
theorem EJ {l:List iO} {p q i B:Nat} {w:World} (hp:l.getD q anyR=Gt B) (hq:l.getD p anyR=Gt B):wS (rl l) p q i (.pointer (some ⟨w.heap.size,0,none⟩)) w:=by
 refine BK (fun u hu => ?_) (fun u hu => ?_)
 ·unfold rl at hu
  rw[hp] at hu
  obtain⟨g,h1,h2,_⟩:=hu
  exact⟨g,_,_,h1,h2⟩
 ·unfold rl at hu
  rw[hq] at hu
  obtain⟨g,h1,h2,_⟩:=hu
  exact⟨g,_,_,h1,h2⟩
theorem wM {P:Program} {ops:Array Oper} {ρ:Operand→Value} {o:Oper} {w w' : World} {l:List iO} {p q i:Nat} (v:Value) (hw:Region.wanted o (ed ρ ops)=true) (hrun:(execOp ρ o).run P w = .ok (.value v) w') (hb:Below w.heap.size w w') (hR:rl l i v w') (hN:wS (rl l) p q i v w) :
  if Region.wanted o (ed ρ ops)=true then cz P o ρ w (fun v w'=>(Below w.heap.size w w'∧rl l i v w')∧wS (rl l) p q i v w) else rl l i undef w∧i≠p∧i≠q:=by
 rw[if_pos hw]
 unfold cz
 rw[hrun]
 exact⟨⟨hb,hR⟩,hN⟩
theorem Ji (l:List Ar) (x:Ar) (a:Option Addr) (c:Nat) (w:World) (h:Mh w a c l) :
  Calls Tryz.prog 64 #[.slice a l.length c,.agg (jO x)] w fun r w' => ∃v,r = .returned (.tuple #[v,.int .i64 (um l x)])∧Own w' w.heap.size 99 7 v (qI l x).length ((qI l x).flatMap iE)∧Below w.heap.size w w':=by
 go_enter Tryz.func64,Tryz.ntmps64
 go_upto_region 1 with (fail)
 refine fo (fun W=>Code.wp _ _ _ _ W) fun W0 hb0 hx0 hs0 => ?_
 clear hs0
 go_wp2_with fail
 refine (xG l a c _ (h.below hb0)).mono ?_
 rintro r w1 ⟨rfl,hb1⟩
 have hbel1:=ae hb0 hb1
 have hx1:=hx0.ext hb1
 clear hb0 hx0 hb1
 unfold Cj
 go_wp2_with (refine aH rfl _ _ _ rfl #[.int .i64 (aZ l).1,.int .i64 (aZ l).2] rfl rfl rfl fau_size (jb _ _) ?_)
 intro w2 hb2 hf2
 have hbel:=ae hbel1 hb2
 have hx2:=hx1.ext hb2
 clear hbel1 hx1 hb2
 by_cases hw:(aZ l).1=0
 ·have hall:=fe.1 hw
  have hw0:=Lib.hid hw
  have hsr:=iX hall.2
  rw[hw] at hf2
  have hcf:=hf2.cell
  clear hw
  go_wp2_with (refine ay _ _ rfl _ 0 rfl rfl _ hx2.rd _ Tryz.underlying99 rfl area_size ?_)
  refine (yA x _).mono ?_
  rintro r w3 ⟨rfl,hb3⟩
  have hbel:=ae hbel hb3
  have hx3:=hx2.ext hb3
  clear hcf hf2 hx2 hb3
  by_cases he:aO x=0
  ·have he0:=Lib.hid he
   rw[he]
   clear he
   go_upto_region 7 with (fail)
   refine Jd 7 5 6 [nU (.slice a l.length c),nU (.agg (fC (bF l))),nU (.agg (jO x)),(Oc x),nU (.agg (fC (bF [x]))),(Gt w.heap.size),(Gt w.heap.size)] (by kernel_rfl) (by decide) (by decide) (by decide) _ rfl (by kernel_rfl) (by kernel_rfl) (by decide) _ rfl (by kernel_rfl) (ag (ni (by decide) (by decide) (Oo (Oq rfl) (Ou rfl (Om rfl rfl) rfl))) (ag ?_ (ag ?_ (ag ?_ (ag ?_ (ag ?_ (ag ?_ (aB)))))))) ?_
   ·refine ni (by decide) (by decide) ?_
    intro ρ y W hw hn hb hd
    have E23:=hw 23 0 rfl
    have h0:y 0=_:=hd 0 rfl
    have EF:∀f,ρ (.func f) = .func (.func f) #[] #[]:=fun f=>hn (.func f) trivial
    refine aJ _ _ (ah rfl) (aK rfl (EF _) Tryz.func49 (by kernel_rfl) (by kernel_rfl) (by simp only[List.map_toArray,List.map_cons,List.map_nil,E23,h0,EF];rfl)) ?_
    refine (kG l a c W (h.below (ae hbel hb)).rd (by omega) (fun x hx=>(srtF_ok hsr x hx).1)).mono ?_
    rintro r w1 ⟨rfl,hb1⟩
    exact⟨_,rfl,hb1,rfl⟩
   ·refine ni (by decide) (by decide) ?_
    intro ρ y W hw hn hb hd
    have E3:ρ (.tmp 3) = .pointer (some ⟨w.heap.size,0,none⟩):=(hn (.tmp 3) rfl).trans rfl
    refine aj (.agg (jO x)) (ah rfl) (aX rfl E3 (hx3.ext hb) Tryz.underlying99 rfl area_size) rfl
   ·refine ni (by decide) (by decide) ?_
    intro ρ y W hw hn hb hd
    have E25:=hw 25 2 rfl
    have h2:y 2=_:=hd 2 rfl
    refine ji (.slice (some ⟨W.heap.size,0,none⟩) 1 1) (ah rfl) (by simp[execOp,go_sem,bZ,E25,h2,jO]) ((Below.refl _ _).alloc (Nat.le_refl _) (.cells (jO x) 99)) ?_
    exact⟨_,rfl,aF.new _ _ _⟩
   ·refine ni (by decide) (by decide) ?_
    intro ρ y W hw hn hb hd
    have E26:=hw 26 3 rfl
    have h3:=hd 3 rfl
    have EF:∀f,ρ (.func f) = .func (.func f) #[] #[]:=fun f=>hn (.func f) trivial
    obtain⟨gq,hq3,hqb⟩:=h3
    refine aJ _ _ (ah rfl) (aK rfl (EF _) Tryz.func49 (by kernel_rfl) (by kernel_rfl) (by simp only[List.map_toArray,List.map_cons,List.map_nil,E26,EF,hq3];rfl)) ?_
    refine (kG [x] _ 1 W (fun j u hj=>hqb.rd j u (by simpa[iE] using hj)) (by simp) (fun z hz=>by rw[List.mem_singleton.1 hz];exact he0.out)).mono ?_
    rintro r w1 ⟨rfl,hb1⟩
    exact⟨_,rfl,hb1,rfl⟩
   ·intro ρ y W hw hn hb hd
    refine wM (.pointer (some ⟨W.heap.size,0,none⟩)) (ah rfl) (w':=W.alloc (.cells (fC f0) 110)) ?_ ((Below.refl _ _).alloc (Nat.le_refl _) _) ⟨_,rfl,aF.new _ _ _,(ae hbel hb).size⟩ (EJ rfl rfl)
    simp[execOp,go_sem,bZ,bZ]
    rfl
   ·intro ρ y W hw hn hb hd
    refine wM (.pointer (some ⟨W.heap.size,0,none⟩)) (ah rfl) (w':=W.alloc (.cells (fC f0) 110)) ?_ ((Below.refl _ _).alloc (Nat.le_refl _) _) ⟨_,rfl,aF.new _ _ _,(ae hbel hb).size⟩ (EJ rfl rfl)
    simp[execOp,go_sem,bZ,bZ]
    rfl
   intro y WA hbWA hRWA hyne
   have hy1:y 1=_:=hRWA 1 (by decide)
   have hy4:y 4=_:=hRWA 4 (by decide)
   have hy3:=hRWA 3 (by decide)
   have hy5:((Gt w.heap.size)).r (y 5) WA:=hRWA 5 (by decide)
   have hy6:((Gt w.heap.size)).r (y 6) WA:=hRWA 6 (by decide)
   clear hRWA
   simp only[lay,bJ,bZ,List.map_cons,List.map_nil,Nat.reduceAdd,Nat.reduceLT,decide_true,decide_false,if_true,Bool.false_eq_true,if_false,List.setIfInBounds_toArray,List.set_cons_zero,List.set_cons_succ,List.drop_succ_cons,List.drop_zero,List.drop_nil,hy1,hy4]
   clear hy1 hy4
   obtain⟨gX,hyX,hbX,hgX⟩:∃g,y 5 = .pointer (some ⟨g,0,none⟩)∧aF WA g (fC f0) 110∧w.heap.size≤g:=hy5
   obtain⟨gY,hyY,hbY,hgY⟩:∃g,y 6 = .pointer (some ⟨g,0,none⟩)∧aF WA g (fC f0) 110∧w.heap.size≤g:=hy6
   have hXY:gX≠gY:=fun e=>hyne (by rw[hyX,hyY,e])
   simp only[hyX,hyY]
   have hbelA:=ae hbel hbWA
   clear hy3 hyX hyY hyne hbel hx3 hbWA
   go_upto_region 8 with (refine az rfl _ _ _ rfl gX (fC (bF l)) rfl rfl _ _ hbX (by rw[fP,fP]) (by rw[fP];exact ones_size) (rW _) ?_)
   intro W5 hX5 hgr5
   have hbel5:=hbelA.grown hgr5 hbelA.size (fun k hk=>by cases hk;exact hgX)
   have hY5:aF W5 gY (fC f0) 110:=hbY.grown hgr5 (fun e=>hXY (Option.some.inj e))
   clear hbelA hbX hbY hgr5
   go_upto_region 8 with (refine az rfl _ _ _ rfl gY (fC (bF [x])) rfl rfl _ _ hY5 (by rw[fP,fP]) (by rw[fP];exact ones_size) (rW _) ?_)
   intro W6 hY6 hgr6
   have hbel6:=hbel5.grown hgr6 hbel5.size (fun k hk=>by cases hk;exact hgY)
   have hX6:aF W6 gX (fC (bF l)) 110:=hX5.grown hgr6 (fun e=>hXY (Option.some.inj e).symm)
   clear hbel5 hX5 hY5 hgr6
   go_upto_region 9 with (fail)
   go_loopw [28] (fun i wr => ∃n:Nat,n≤64∧i = .int .i64 n∧Below w.heap.size w wr∧aF wr gX (fC (mO x n (bF l))) 110∧aF wr gY (fC (bF [x])) 110∧∀i:Nat,i<n→¬(jP (i:Int) x=true∧onA l i≠none)) (fun i _=>64-(intOf i).toNat)
   case atStart=>exact⟨0,by omega,rfl,hbel6,by rw[CS];exact hX6,hY6,fun i hi=>absurd hi (Nat.not_lt_zero _)⟩
   case round=>
    clear hbel6 hX6 hY6
    obtain⟨n,hn,rfl,hbr,hX,hY,hno0⟩:=hrel
    have hno:=Lib.hid hno0
    clear hno0
    by_cases hlt:n<64
    ·have hlti:(n:Int)<64:=by omega
     have dX:wr.cell? ⟨gX,n*6,none⟩=some (.bool (onA l n).isSome):=by
      rw[hX.cell]
      exact rX (mO x n (bF l)) n 0 hlt _ (by rw[KO,kH hsr];rfl) (by decide)
     have dY:wr.cell? ⟨gY,n*6,none⟩=some (.bool (bF [x] n).isSome):=by
      rw[hY.cell]
      exact rX (bF [x]) n 0 hlt _ rfl (by decide)
     rw[Hy] at dY
     by_cases hin:jP (n:Int) x=true
     ·rw[if_pos hin] at dY
      cases hon:onA l (n:Int) with
      | some p=>
       rw[hon] at dX
       simp only[Option.isSome] at dX dY
       have q0:Hid _:=Lib.hid (zO (l:=l) (x:=x) (e:=6) (by unfold um;rw[if_neg (by rw[hw0.out];simp),if_neg (by rw[he0.out];simp),if_pos (JU hin (by rw[hon];simp))]) (by decide))
       have hbel:=hbr
       clear hin hon
       go_wp2
       go_ret2
       have q:=q0.out
       exact⟨.slice none 0 0,by first | (rw[q.1];done) | (rw[q.1];rfl),by rw[q.2];exact Own.nil _ _ _ _,hbel⟩
      | none=>
       rw[hon] at dX
       simp only[Option.isSome] at dX dY
       have hset:Hid (bC (fC (mO x n (bF l))) (n*6) (kV (some (gJ x n)))=fC (mO x (n+1) (bF l))):=Lib.hid (by
        rw[Jw _ n hlt,JR hin])
       have hrdY:cZ wr (some ⟨gY,n*6,none⟩) (kV (some (gJ x n))):=fun j u hj=>⟨gY,n*6,rfl,by
        rw[hY.cell]
        exact rX (bF [x]) n j hlt u (by rw[Hy,if_pos hin];exact hj) (by have:=(List.getElem?_eq_some_iff.1 hj).1;rwa [jM] at this)⟩
       have hup:Hid (∀i:Nat,i<n+1→¬(jP (i:Int) x=true∧onA l i≠none)):=Lib.hid (fun i hi hq=>by
        by_cases c:i=n
        ·subst c;exact hq.2 hon
        ·exact hno.out i (by omega) hq)
       have hfit:Hid (n*6+6≤(fC (mO x n (bF l))).size):=Lib.hid (by rw[fP];omega)
       clear hin hon
       go_upto_region 15 with (first | (refine ay _ _ rfl _ (n*6) rfl rfl _ hrdY _ Tryz.underlying109 rfl one_size ?_) | (refine eX rfl _ _ _ rfl gX (n*6) (nW (some (gJ x n))) rfl rfl _ _ hX hfit.out one_size (Ap _) ?_))
       intro W7 hX7 hgr7
       have hX8:aF W7 gX (fC (mO x (n+1) (bF l))) 110:=by rw[←hset.out];exact hX7
       have hbel7:=hbr.grown hgr7 hbr.size (fun k hk=>by cases hk;exact hgX)
       have hY7:aF W7 gY (fC (bF [x])) 110:=hY.grown hgr7 (fun e=>hXY (Option.some.inj e))
       clear hX hY hbr hX7 hgr7 dX dY hrdY hset hfit
       go_wp2
       go_roundw
       case rel=>exact⟨n+1,by omega,by go_num,hbel7,hX8,hY7,hup.out⟩
       case measure=>simp[intOf];omega
     ·rw[if_neg hin] at dY
      simp only[Option.isSome] at dY
      have hup:Hid (∀i:Nat,i<n+1→¬(jP (i:Int) x=true∧onA l i≠none)):=Lib.hid (fun i hi hq=>by
       by_cases c:i=n
       ·subst c;exact hin hq.1
       ·exact hno.out i (by omega) hq)
      have hX8:aF wr gX (fC (mO x (n+1) (bF l))) 110:=by rw[Fe hin];exact hX
      clear hin hX
      cases hsX:(onA l (n:Int)).isSome
      ·rw[hsX] at dX
       clear hsX
       go_wp2
       go_roundw
       case rel=>exact⟨n+1,by omega,by go_num,hbr,hX8,hY,hup.out⟩
       case measure=>simp[intOf];omega
      ·rw[hsX] at dX
       clear hsX
       go_wp2
       go_roundw
       case rel=>exact⟨n+1,by omega,by go_num,hbr,hX8,hY,hup.out⟩
       case measure=>simp[intOf];omega
    ·have hn64:n=64:=by omega
     subst hn64
     have hany:=KN hall.2 he0.out hno.out
     have hmt:∀z∈l,kZ x z=false:=fun z hz=>by have:=List.any_eq_false.1 hany z hz;simpa using this
     have hins:=xh he0.out hsr (bi he0.out).1.2.1.1 hmt
     rw[←vw] at hins
     have hfin:Hid (um l x=xL (mr (wZ l x)).length):=Lib.hid (by unfold um;rw[if_neg (by rw[hw0.out];simp),if_neg (by rw[he0.out];simp),if_neg (by rw[hany];simp)];rfl)
     have hml:Hid (qI l x=if 16<(mr (wZ l x)).length then [] else mr (wZ l x)):=Lib.hid (by
      unfold qI
      rw[hfin.out]
      unfold xL
      by_cases h16:16<(mr (wZ l x)).length
      ·rw[if_pos h16,if_pos h16];rfl
      ·rw[if_neg h16,if_neg h16];rfl)
     have hs384:Hid ((fC (mO x 64 (bF l))).size=384):=Lib.hid (fP _)
     clear hlt
     go_wp2_with (refine ay _ _ rfl _ 0 rfl rfl _ hX.rd _ Tryz.underlying110 rfl (by rw[Array.length_toList,hs384.out];exact ones_size) ?_)
     refine (Kz (mO x 64 (bF l)) (mr (wZ l x)) (zT hins) (fun i hi => ?_) (fun i p hp => ?_) _).mono ?_
     ·rw[zD hins,vw,zX he0.out _ hsr hmt]
      unfold mO
      rw[kH hsr]
      by_cases c:jP (i:Int) x=true
      ·rw[if_pos ⟨c,hi⟩,if_pos c]
      ·rw[if_neg (fun q=>c q.1),if_neg c]
     ·unfold mO at hp
      split at hp
      ·rename_i hq
       cases hp
       have h1:=DX he0.out hq.1
       refine⟨h1.2.2.1,?_⟩
       by_cases hf:(gJ x i).fi<0
       ·rw[(h1.2.2.2.1 hf).1];decide
       ·have:=h1.2.2.2.2 (by omega);omega
      ·exact Ch hsr i p hp
     ·rintro r w9 ⟨v9,rfl,hO9,hb9⟩
      have hbel9:=ae hbr hb9
      replace hO9:=hO9.mono hbr.size
      rw[←hml.out] at hO9
      rw[←hfin.out]
      clear hbr hX hY hb9 hml
      go_wp2
      go_ret2
      exact⟨v9,rfl,hO9,hbel9⟩
  ·have q0:Hid _:=Lib.hid (zO (l:=l) (x:=x) (e:=aO x) (by unfold um;rw[if_neg (by rw[hw0.out];simp),if_pos he]) he)
   have he' : (aO x != 0)=true:=by simpa using he
   clear he hall
   go_wp2
   go_ret2
   have q:=q0.out
   exact⟨.slice none 0 0,by first | (rw[q.1];done) | (rw[q.1];rfl),by rw[q.2];exact Own.nil _ _ _ _,hbel⟩
 ·have q0:Hid _:=Lib.hid (zO (l:=l) (x:=x) (e:=(aZ l).1) (by unfold um;rw[if_pos hw]) hw)
  have hw' : ((aZ l).1 != 0)=true:=by simpa using hw
  have hcf:=hf2.cell
  clear hw
  go_upto_region 3 with (fail)
  go_quiet (fail)
  rename_i nq
  have hbel:=below_drewN hbel nq
  go_wp2
  go_ret2
  have q:=q0.out
  exact⟨.slice none 0 0,by first | (rw[q.1];done) | (rw[q.1];rfl),by rw[q.2];exact Own.nil _ _ _ _,hbel⟩
theorem Fw {l:List Ar} {x:Ar} (h:um l x=0):(l.length≤16∧okF none l)∧aO x=0∧(∀a∈l,kZ x a=false)∧(mr (wZ l x)).length≤16∧qI l x=mr (wZ l x):=by
 have h0:=h
 unfold um at h
 by_cases hw:(aZ l).1=0
 ·rw[if_neg (by omega)] at h
  by_cases he:aO x=0
  ·rw[if_neg (by omega)] at h
   cases hm:l.any (kZ x)
   ·rw[hm,if_neg (by simp)] at h
    refine⟨fe.1 hw,he,fun a ha => ?_,?_,?_⟩
    ·have:=List.any_eq_false.1 hm a ha
     simpa using this
    ·split at h
     ·omega
     ·omega
    ·unfold qI;rw[if_neg (by omega)]
   ·rw[hm,if_pos rfl] at h;omega
  ·rw[if_pos he] at h;exact absurd h he
 ·rw[if_pos hw] at h;exact absurd h hw
theorem Dp {l:List Ar} {x:Ar} (h:um l x=0):(qI l x).length≤16∧okF none (qI l x)∧∀n,onA (qI l x) n=if jP n x then some (gJ x n) else onA l n:=by
 obtain⟨⟨h1,h2⟩,h3,h4,h5,h6⟩:=Fw h
 have hs:=iX h2
 have hx:=(bi h3).1.2.1.1
 have hi:=xh h3 hs hx h4
 rw[h6]
 rw[vw] at h5 ⊢
 exact⟨h5,zT hi,fun n=>by rw[zD hi,zX h3 n hs h4]⟩
def EI (S:MW):Prop:=∀p∈S.H.sp,∀n g,onA p.ar n=some g→g.fi<S.H.fi.length
structure More (S S' : MW):Prop where
 bd:Bd S'.H.ma S'.T
 fm:EI S'
 fi:S'.H.fi=S.H.fi
 ct:S'.H.ct=S.H.ct
 dk:S'.H.dk=S.H.dk
 sp:S'.H.sp.length=S.H.sp.length+1
 fs:S'.H.m.fs.length=S.H.m.fs.length
def SpaceR (S:MW) (B b:Nat) (w:World) (r:Ending) (w' : World):Prop:=∃S',r = .returned (.tuple #[])∧dm w' B b S'∧MS w b S w' S'∧More S S' ∧
 (S.l=[]→S'.l=[]∧S'.H.ma = { S.H.ma with sp:=S.H.ma.sp++[⟨true,[],zTb⟩] }∧S'.T=S.T++[List.replicate 64 zEn])
theorem dm.kb_ne {w:World} {B b:Nat} {S:MW} (h:dm w B b S) {x:Nat} {cs:Array Value} {T:TypeId} (hk:aF w x cs T)
  (hT:T≠77∧T≠81∧T≠3∧T≠79∧T≠86∧T≠67∧T≠106∧T≠55∧T≠90):¬iY b S x:=by
 obtain⟨t1,t2,t3,t4,t5,t6,t7,t8,t9⟩:=hT
 have own:∀ {e:TypeId} {sz n c:Nat} {a:Option Addr} {xs:List Value},T≠e→Own w B e sz (.slice a n c) n xs→oB a=some x→False:=fun ht ho hx=>by
  obtain⟨_,cs',h2⟩:=fD ho hx
  exact lQ hk h2 ht rfl
 intro hx
 rcases hx with hx|hx
 ·subst hx;exact lQ hk h.blk t1 rfl
 ·simp only[dZ,List.mem_cons,List.not_mem_nil,or_false] at hx
  rcases hx with hx|hx|hx|hx|hx|hx|hx|hx|hx
  ·exact own t2 h.ma.fr hx.symm
  ·exact own t3 h.ma.sl hx.symm
  ·exact own t4 h.ma.sw.b hx.symm
  ·exact own t4 h.ma.dk.b hx.symm
  ·exact own t5 h.ma.dk.q hx.symm
  ·exact own t6 h.ma.st.own hx.symm
  ·exact own t7 h.ma.ca hx.symm
  ·exact own t8 h.ma.sp hx.symm
  ·exact own t9 h.tt hx.symm
theorem dm.own_not {w:World} {B b B' : Nat} {S:MW} (h:dm w B b S) {e:TypeId} {sz n c:Nat} {a:Option Addr} {xs:List Value} (ho:Own w B' e sz (.slice a n c) n xs)
  (hT:e≠77∧e≠81∧e≠3∧e≠79∧e≠86∧e≠67∧e≠106∧e≠55∧e≠90):∀x,(Value.slice a n c).ownBlock=some x→¬iY b S x:=fun x hx=>by
 obtain⟨cs,hk⟩:=ic ho x hx
 exact h.kb_ne hk hT
theorem dm.locA {w w' : World} {B b:Nat} {S:MW} (h:dm w B b S) {g:Nat} {cs:Array Value} (hk:aF w g cs 99) (hn:¬iY b S g) (hsp:∀p∈S.H.sp,oB p.aa≠some g) (hgB:B≤g) (hg:w.grownBy w' (some g)):dm w' B b S:=by
 have hne:∀ {a:Option Addr},oB a∈dZ S→∀n c g',(Value.slice a n c).ownBlock=some g'→some g≠some g':=fun hm n c g' he e=>by
  cases e
  rw[iK] at he
  exact hn (.inr (by rw[←he];exact hm))
 exact⟨h.blk.grown hg (fun e=>hn (.inl (Option.some.inj e))),h.ge,⟨h.ma.fr.grown hg (hne (by simp[dZ]) _ _),h.ma.sl.grown hg (hne (by simp[dZ]) _ _),⟨h.ma.sw.b.grown hg (hne (by simp[dZ]) _ _),h.ma.sw.q.grown hg (fun g' he=>by rw[h.n3] at he;cases he)⟩,⟨h.ma.dk.b.grown hg (hne (by simp[dZ]) _ _),h.ma.dk.q.grown hg (hne (by simp[dZ]) _ _)⟩,
  ⟨h.ma.st.own.grown hg (hne (by simp[dZ]) _ _),fun i p hp=>ak (h.ma.st.each i p hp) hk (by decide) hg,h.ma.st.apart⟩,h.ma.ca.grown hg (hne (by simp[dZ]) _ _),h.ma.sp.grown hg (hne (by simp[dZ]) _ _),fun p hp=>⟨(h.ma.ps p hp).1.grown hg (fun g' he e=>by
   cases e
   rw[iK] at he
   exact hsp p hp he),(h.ma.ps p hp).2.keep hk (by decide) hg⟩,h.ma.c64⟩,
  h.tt.grown hg (hne (by simp[dZ]) _ _),h.rd.keep h.ra h.bs hg hgB,h.ra,h.n1,h.n2,h.n3⟩
theorem dm.newA {w:World} {B b:Nat} {S:MW} (h:dm w B b S) {x:Nat} (hx:w.heap.size≤x):∀p∈S.H.sp,oB p.aa≠some x:=fun p hp he=>by
 have:=(fD (h.ma.ps p hp).1 he).2.choose_spec.lt
 omega
def De (S:MW) (B b:Nat) (w:World) (i:Nat) (cs:Array Value) (T:TypeId):(Nat→Bool)→(Nat→Value)→World→Prop:=fun L y W=>
 DR S B b w [] L y W∧(L i=true→∃g,y i = .pointer (some ⟨g,0,none⟩)∧aF W g cs T∧¬iY b S g∧w.heap.size≤g)
theorem fM {S:MW} {B b:Nat} {w:World} {i:Nat} {cs:Array Value} {T:TypeId}:∀L y W W',Below W.heap.size W W'→De S B b w i cs T L y W→De S B b w i cs T L y W':=
 fun _ _ _ _ hb ⟨h1,h2⟩=>⟨aD _ _ _ _ hb h1,fun hL=>by
  obtain⟨g,e1,e2,e3⟩:=h2 hL
  exact⟨g,e1,e2.ext hb,e3⟩⟩
theorem IC {S:MW} {B b:Nat} {w W:World} {i:Nat} {cs:Array Value} {T:TypeId} {L:Nat→Bool} {y:Nat→Value} (h0:dm w B b S) (h:De S B b w i cs T L y W):De S B b w i cs T (bO L i) (cK y i (.pointer (some ⟨W.heap.size,0,none⟩))) (W.alloc (.cells cs T)):=by
 have hs:w.heap.size≤W.heap.size:=by
  obtain⟨⟨a,c,l,h1,h2,h3⟩,_⟩:=h
  exact h2.size
 exact⟨aD _ _ _ _ ((Below.refl _ _).alloc (Nat.le_refl _) _) h.1,fun _=>⟨W.heap.size,by unfold cK;rw[if_pos rfl],aF.new _ _ _,h0.new hs,hs⟩⟩
theorem qh {S:MW} {B b:Nat} {w W:World} {i:Nat} {cs:Array Value} {T:TypeId} {L L' : Nat→Bool} {y:Nat→Value} {y' : Value→Nat→Value} (hL:L' i=L i) (hy:∀v,y' v i=y i) (n:Int) (hn : -9223372036854775808≤n∧n≤9223372036854775807) (h:De S B b w i cs T L y W) {R:Value→World→Prop} (hR:∀x:Int,0≤x→x<256→(x<n∨x=0)→∀W',R (.int .i64 x) W') :
  Calls Tryz.prog 30 #[.pointer (some ⟨b,0,none⟩),.int .i64 n] W fun e W' => ∃v,e = .returned v∧De S B b w i cs T L' (y' v) W'∧R v W':=by
 obtain⟨⟨a,c,l,h1,h2,h3⟩,h4⟩:=h
 refine (dH _ n B b W h1 hn).mono ?_
 rintro r W' ⟨x,a',c',l',rfl,k1,k2,k3,_⟩
 exact⟨_,rfl,⟨⟨a',c',l',k1,h2.trans k2,fun t ht=>(by cases ht)⟩,fun hl=>by
  obtain⟨g,e1,e2,e3,e4⟩:=h4 (by rw[←hL];exact hl)
  exact⟨g,by rw[hy];exact e1,k2.blkN e2 e3,e3,e4⟩⟩,hR x k3.1 k3.2.1 k3.2.2 W'⟩
theorem lW {w w' : World} {B sz n c:Nat} {e:TypeId} {a:Option Addr} {xs:List Value} (ho:Own w B e sz (.slice a n c) n xs) (hg:w.grownBy w' (Value.slice a n c).ownBlock):Below w.heap.size w w'∨∃g cs,aF w g cs e∧oB a=some g∧w.grownBy w' (some g):=by
 cases h:(Value.slice a n c).ownBlock with
 | none=>rw[h] at hg;exact .inl (fO hg)
 | some g=>
  rw[h] at hg
  obtain⟨cs,hk⟩:=ic ho g h
  exact .inr ⟨g,cs,hk,by rw[←iK a n c];exact h,hg⟩
theorem dm.appP {w w1 w2:World} {B b:Nat} {S:MW} (h:dm w B b S) (hg:w.grownBy w1 (Value.slice S.H.ap S.H.sp.length S.H.cp).ownBlock) {a:Option Addr} {c:Nat} {l:List PS} (ho:Own w1 B 55 10 (.slice a l.length c) l.length (l.flatMap lg))
  (hp:∀p∈l,Own w1 B 99 7 (.slice p.aa p.ar.length p.ac) p.ar.length (p.ar.flatMap iE)∧lc w1 B (iP p.ts) p.tb) (hb:aF w2 b (bC (eP S) 11 [.slice a l.length c]) 77) (hg2:w1.grownBy w2 (some b)) :
  dm w2 B b { S with H:={ S.H with ap:=a,cp:=c,sp:=l } }:=by
 have key:aF w1 b (eP S) 77∧Own w1 B 81 13 (.slice S.H.af S.H.m.fs.length S.H.cf) S.H.m.fs.length (S.H.m.fs.flatMap nE)∧Own w1 B 3 1 (.slice S.H.asl S.H.sl.length S.H.csl) S.H.sl.length (S.H.sl.map dL) ∧
   jc w1 B (.slice S.H.wb S.H.sw.blocks.length S.H.cwb) (.slice S.H.wq S.H.sw.queue.length S.H.cwq) S.H.sw∧jc w1 B (.slice S.H.db S.H.dk.blocks.length S.H.cdb) (.slice S.H.dq S.H.dk.queue.length S.H.cdq) S.H.dk∧rA w1 B (.slice S.H.ai S.H.fi.length S.H.ci) S.H.fi ∧
   Own w1 B 106 3 (.slice S.H.ac S.H.ca.length S.H.cc) S.H.ca.length (S.H.ca.flatMap kS)∧Own w1 B 90 192 (.slice S.ab S.T.length S.cb) S.T.length (S.T.flatMap tL)∧lX w1 S.al S.cl S.l.length (S.l.map kT):=by
  rcases lW h.ma.sp hg with hb0|⟨g,cs,hk,hga,hg'⟩
  ·have h1:=h.below hb0
   exact⟨h1.blk,h1.ma.fr,h1.ma.sl,h1.ma.sw,h1.ma.dk,h1.ma.st,h1.ma.ca,h1.tt,h1.rd⟩
  ·exact⟨bD h.blk hk (by decide) hg',ak h.ma.fr hk (by decide) hg',ak h.ma.sl hk (by decide) hg',h.ma.sw.keep hk (by decide) (by decide) hg',h.ma.dk.keep hk (by decide) (by decide) hg',h.ma.st.keep hk (by decide) (by decide) hg',ak h.ma.ca hk (by decide) hg',ak h.tt hk (by decide) hg',h.rd.keep h.ra h.bs hg' (fD h.ma.sp hga).1⟩
 obtain⟨k0,k1,k2,k3,k4,k5,k6,k7,k8⟩:=key
 exact⟨hb,h.ge,⟨ak k1 k0 (by decide) hg2,ak k2 k0 (by decide) hg2,k3.keep k0 (by decide) (by decide) hg2,k4.keep k0 (by decide) (by decide) hg2,k5.keep k0 (by decide) (by decide) hg2,ak k6 k0 (by decide) hg2,ak ho k0 (by decide) hg2,fun p hpm=>⟨ak (hp p hpm).1 k0 (by decide) hg2,(hp p hpm).2.keep k0 (by decide) hg2⟩,h.ma.c64⟩,
  ak k7 k0 (by decide) hg2,k8.keep h.ra (Nat.le_trans h.ge (Nat.le_of_lt k0.lt)) hg2 h.ge,h.ra,h.n1,h.n2,h.n3⟩
theorem dm.appT {w w1 w2:World} {B b:Nat} {S:MW} (h:dm w B b S) (hg:w.grownBy w1 (Value.slice S.ab S.T.length S.cb).ownBlock) {a:Option Addr} {c:Nat} {T:List (List En)} (ho:Own w1 B 90 192 (.slice a T.length c) T.length (T.flatMap tL))
  (hb:aF w2 b (bC (eP S) 12 [.slice a T.length c]) 77) (hg2:w1.grownBy w2 (some b)):dm w2 B b { S with ab:=a,cb:=c,T:=T }:=by
 have key:aF w1 b (eP S) 77∧qK w1 B S.H∧lX w1 S.al S.cl S.l.length (S.l.map kT):=by
  rcases lW h.tt hg with hb0|⟨g,cs,hk,hga,hg'⟩
  ·have h1:=h.below hb0
   exact⟨h1.blk,h1.ma,h1.rd⟩
  ·exact⟨bD h.blk hk (by decide) hg',h.ma.keep hk (by decide) hg',h.rd.keep h.ra h.bs hg' (fD h.tt hga).1⟩
 obtain⟨k0,k1,k2⟩:=key
 exact⟨hb,h.ge,k1.keep k0 (by decide) hg2,ak ho k0 (by decide) hg2,k2.keep h.ra (Nat.le_trans h.ge (Nat.le_of_lt k0.lt)) hg2 h.ge,h.ra,h.n1,h.n2,h.n3⟩
theorem MS.app {w0 w w1 w2:World} {B b B' sz n n' c c' : Nat} {S0 S S' : MW} {e:TypeId} {a a' : Option Addr} {xs:List Value} (h:MS w0 b S0 w S) (hm:dm w B b S) (ho:Own w B' e sz (.slice a n c) n xs) (hk:oB a∈dZ S) (hg:w.grownBy w1 (Value.slice a n c).ownBlock) (hg2:w1.grownBy w2 (some b)) (hbn:jV w (.slice a n c) (.slice a' n' c'))
  (hn:∀x,iY b S' x→iY b S x∨oB a' = some x):MS w0 b S0 w2 S':=by
 have h1:MS w0 b S0 w1 S:=by
  rcases lW ho hg with hb0|⟨g,cs,_,hga,hg'⟩
  ·exact h.below hb0
  ·exact h.put hg' (.inr (by rw[←hga];exact hk)) (fun x hx => .inl hx)
 refine h1.put hg2 (.inl rfl) fun x hx => ?_
 rcases hn x hx with hx|hx
 ·exact .inl hx
 ·rcases hbn with e1|e1
  ·rw[iK,iK] at e1
   exact .inl (.inr (by rw[←hx,e1];exact hk))
  ·exact .inr (Nat.le_trans h.size (e1 x (by rw[iK];exact hx)))
theorem ents_info:(Tryz.prog.info? 90).map (fun i=>(i.zero,i.size,i.bytes))=some (some (.agg (tL (List.replicate 64 zEn)).toArray),192,1536):=by kernel_rfl
theorem uP {w:World} {ops:Array Oper} {rest:List Oper} {o:Oper} {a:Act} {Q:Exit→Act→World→Prop} (hg:o.guard=none) (s x:Operand)
  (hop:o.op=Op.call { callee:=Callee.builtin Builtin.append,args:=#[s,x],argTypes:=#[75,75] }) {cs:Array Value} (hcs:cs=(tL (List.replicate 64 zEn)).toArray)
  (B:Nat) (v:Value) (n:Nat) (xs:List Value) (hs:a.eval s=v) (hown:Own w B 90 192 v n xs) (hx:a.eval x = .slice (some ⟨w.heap.size,0,none⟩) 1 1) (hn:n≤100) (hB:B≤w.heap.size)
  (hK:∀v' w',Own w' B 90 192 v' (n+1) (xs++tL (List.replicate 64 zEn))→(w.alloc (.cells (tL (List.replicate 64 zEn)).toArray 90)).grownBy w' v.ownBlock→jV (w.alloc (.cells (tL (List.replicate 64 zEn)).toArray 90)) v v'→wpList Tryz.prog ops Q rest (a.put o.dst v') w') :
  wpList Tryz.prog ops Q (o::rest) a (w.alloc (.cells cs 90)):=by
 subst hcs
 exact jm hg s x 75 hop B 90 _ 192 1536 Tryz.underlying75 ents_info rfl (by decide) v n xs hs (hown.alloc _) (some ⟨w.heap.size,0,none⟩) 1 1 (tL (List.replicate 64 zEn)) hx (fun h=>(by cases h)) (Nat.le_refl _) (qV _) (by simpa using cZ.new w (tL (List.replicate 64 zEn)).toArray 90) (by decide +kernel) (by unfold maxLen;omega) (by omega) (dz hB _) hK
theorem xN (S:MW) (B b:Nat) (w:World) (h:dm w B b S) (hd:Bd S.H.ma S.T) (hf:EI S) (hl4:S.H.sp.length<4) :
  Calls Tryz.prog 35 #[.pointer (some ⟨b,0,none⟩)] w (SpaceR S B b w):=by
 have hd':=Lib.hid hd
 have hf':=Lib.hid hf
 have hBs:=Lib.hid h.bs
 have hfl5:S.H.fi.length≤5:=by
  have:=(mi.1 hd.few.2.2.2.2.1).1.1
  simpa[MH.ma,bT] using this
 clear hd hf
 go_enter Tryz.func35,Tryz.ntmps35
 go_wp2_with fail
 refine (dH _ 4 B b _ h (by omega)).mono ?_
 rintro r w1 ⟨n1,a1,c1,l1,rfl,h1,s1,hn1,hq1⟩
 obtain⟨N,rfl⟩:=Int.eq_ofNat_of_zero_le hn1.1
 have hN4:N<4:=by omega
 have hq1':=Lib.hid hq1
 clear h hn1 hq1
 have hwl:IntKind.i64.wrap ((S.H.fi.length:Int)+1)=(S.H.fi.length:Int)+1:=IntWalk.i64_in _ (by omega)
 go_upto_region 2 with (fail)
 go_loopw [11,2] (fun i u wr => ∃(k:Nat) (A:List Ar) (a:Option Addr) (c:Nat) (al:Option Addr) (cl:Nat) (ll:List UInt8),k≤N∧i = .int .i64 k∧u = .slice a A.length c∧Own wr B 99 7 (.slice a A.length c) A.length (A.flatMap iE)∧dm wr B b (S.lst al cl ll)∧MS w b S wr (S.lst al cl ll) ∧
  Hid ((aZ A).1=0∧(∀n g,onA A n=some g→g.fi<S.H.fi.length)∧(k=0→A=[]∧ll=l1))) (fun i _ _=>N-(intOf i).toNat)
 case atStart=>exact⟨0,[],none,0,a1,c1,l1,Nat.zero_le _,rfl,rfl,by simpa using Own.nil _ _ _ _,h1,s1,Lib.hid ⟨by decide,fun n g h=>(by cases h),fun _=>⟨rfl,rfl⟩⟩⟩
 case round=>
  clear h1 s1
  obtain⟨k,A,a,c,al,cl,ll,hk,rfl,rfl,hown,hm,hs,hA⟩:=hrel
  have hnu:=Lib.hid (hm.own_not hown (by decide))
  by_cases hkN:k<N
  ·have hki:(k:Int)<(N:Int):=by omega
   go_upto_region 3 with (fail)
   refine dN 21 [_,.r 1 ((aQ fun v => ∃x:Int,v = .int .i64 x∧0≤x∧x<12)),_,.r 3 ((aQ fun v => ∃x:Int,v = .int .i64 x)),.r 4 ((aQ fun v => ∃u,v = .bool u)),_,.r 6 ((aQ fun v => ∃x:Int,v = .int .i64 x)),.r 7 ((aQ fun v => ∃u,v = .bool u)),_,_,_,_,_,_,.v (.slice S.H.ai S.H.fi.length S.H.ci),_,_,.r 17 ((aQ fun v => ∃x:Int,v = .int .i64 x∧0≤x∧x<(S.H.fi.length:Int)+1)),.r 18 ((aQ fun v => ∃x:Int,v = .int .i64 x∧-1≤x∧x<S.H.fi.length)),.r 19 ((aQ fun v => ∃fr rd wr fi,v = .agg (jO ⟨fr,0,rd,wr,false,fi,0⟩)∧0≤fr∧fr<12∧-1≤fi∧fi<S.H.fi.length)),.r 20 ((aQ fun _=>True))] (De (S.lst al cl ll) B b wr 20 (jO ⟨0,0,false,false,false,0,0⟩) 99) fM (fun _=>⟨⟨al,cl,ll,hm,MS.refl _ _ _,fun t ht=>(by cases ht)⟩,fun e=>(by cases e)⟩) (Qk fM rfl (ag ?_ (Qk fM rfl (ag ?_ (ag ?_ (Qk fM rfl (ag ?_ (ag ?_ (Qk fM rfl (Qk fM rfl (Qk fM rfl (Qf fM b 1 rfl rfl (Qf fM b 8 rfl rfl (Qf fM b 8 rfl rfl (ag ?_ (Qn fM rfl rfl rfl rfl (Qb fM (.int .i64 ((S.H.fi.length:Int)+1)) (by simp[go_sem,hwl]) rfl rfl rfl rfl rfl (ag ?_ (ag ?_ (ag ?_ (ag ?_ (aB)))))))))))))))))))))) (fun _=>rfl) rfl ?_
   ·intro ρ y W L hw hn hLi hLd hb hd;have E13:=hw 13 0 rfl;have h0:y 0=_:=hd 0 rfl
    have EC:∀v,ρ (.const v)=v:=fun v=>hn (.const v) trivial
    have EF:∀f,ρ (.func f) = .func (.func f) #[] #[]:=fun f=>hn (.func f) trivial
    refine eF _ _ (ah rfl) (aK rfl (EF _) Tryz.func30 (by kernel_rfl) (by kernel_rfl) (by simp only[List.map_toArray,List.map_cons,List.map_nil,E13,h0,EC,EF];rfl)) ?_
    exact qh rfl (fun _=>rfl) 12 (by omega) hb fun x h1 h2 h3 _=>⟨x,rfl,h1,by omega⟩
   ·intro ρ y W L hw hn hLi hLd hb hd;have E15:=hw 15 2 rfl;have h2:y 2=_:=hd 2 rfl
    have EC:∀v,ρ (.const v)=v:=fun v=>hn (.const v) trivial
    have EF:∀f,ρ (.func f) = .func (.func f) #[] #[]:=fun f=>hn (.func f) trivial
    refine eF _ _ (ah rfl) (aK rfl (EF _) Tryz.func30 (by kernel_rfl) (by kernel_rfl) (by simp only[List.map_toArray,List.map_cons,List.map_nil,E15,h2,EC,EF];rfl)) ?_
    exact qh rfl (fun _=>rfl) 4 (by omega) hb fun x h1 h2 h3 _=>⟨x,rfl⟩
   ·intro ρ y W L hw hn hLi hLd hb hd
    refine bY fM (fun _ _ h=>h) hb ?_
    have E16:=hw 16 3 rfl
    have h3:=hd 3 rfl
    obtain⟨x,hx⟩:=h3
    refine aj _ (ah rfl) (kE rfl (E16.trans hx) (hn (.const _) trivial) (by simp[go_sem];rfl)) ⟨_,rfl⟩
   ·intro ρ y W L hw hn hLi hLd hb hd;have E18:=hw 18 5 rfl;have h5:y 5=_:=hd 5 rfl
    have EC:∀v,ρ (.const v)=v:=fun v=>hn (.const v) trivial
    have EF:∀f,ρ (.func f) = .func (.func f) #[] #[]:=fun f=>hn (.func f) trivial
    refine eF _ _ (ah rfl) (aK rfl (EF _) Tryz.func30 (by kernel_rfl) (by kernel_rfl) (by simp only[List.map_toArray,List.map_cons,List.map_nil,E18,h5,EC,EF];rfl)) ?_
    exact qh rfl (fun _=>rfl) 3 (by omega) hb fun x h1 h2 h3 _=>⟨x,rfl⟩
   ·intro ρ y W L hw hn hLi hLd hb hd
    refine bY fM (fun _ _ h=>h) hb ?_
    have E19:=hw 19 6 rfl
    have h6:=hd 6 rfl
    obtain⟨x,hx⟩:=h6
    refine aj _ (ah rfl) (kE rfl (E19.trans hx) (hn (.const _) trivial) (by simp[go_sem];rfl)) ⟨_,rfl⟩
   ·intro ρ y W L hw hn hLi hLd hb hd
    refine bY fM (fun _ _ h=>h) hb ?_
    have E26:=hw 26 13 rfl
    have h13:y 13=_:=hd 13 rfl
    obtain⟨⟨a0,c0,l0,m1,m2,m3⟩,_⟩:=hb
    refine aj (.slice S.H.ai S.H.fi.length S.H.ci) (ah rfl) (by simp[execOp,go_sem,E26,h13,m1.blk.cell,eP,MW.lst]) rfl
   ·intro ρ y W L hw hn hLi hLd hb hd;have E21:=hw 21 8 rfl;have h8:y 8=_:=hd 8 rfl;have E29:=hw 29 16 rfl;have h16:y 16=_:=hd 16 rfl
    have EF:∀f,ρ (.func f) = .func (.func f) #[] #[]:=fun f=>hn (.func f) trivial
    refine eF _ _ (ah rfl) (aK rfl (EF _) Tryz.func30 (by kernel_rfl) (by kernel_rfl) (by simp only[List.map_toArray,List.map_cons,List.map_nil,E21,h8,E29,h16,EF];rfl)) ?_
    exact qh rfl (fun _=>rfl) _ (by omega) hb fun x h1 h2 h3 _=>⟨x,rfl,h1,by omega⟩
   ·intro ρ y W L hw hn hLi hLd hb hd
    refine bY fM (fun _ _ h=>h) hb ?_
    have E30:=hw 30 17 rfl
    have h17:=hd 17 rfl
    obtain⟨x,hx,k1,k2⟩:=h17
    have hw9:IntKind.i64.wrap (x-1)=x-1:=IntWalk.i64_in _ (by omega)
    refine aj (.int .i64 (x-1)) (ah rfl) (kE rfl (E30.trans hx) (hn (.const _) trivial) (by simp[go_sem,hw9])) ⟨_,rfl,by omega,by omega⟩
   ·intro ρ y W L hw hn hLi hLd hb hd
    refine bY fM (fun _ _ h=>h) hb ?_
    have E14:=hw 14 1 rfl
    have h1:=hd 1 rfl
    have E17:=hw 17 4 rfl
    have h4:=hd 4 rfl
    have E20:=hw 20 7 rfl
    have h7:=hd 7 rfl
    have E31:=hw 31 18 rfl
    have h18:=hd 18 rfl
    obtain⟨x1,hx1,k1,k2⟩:=h1
    obtain⟨x2,hx2⟩:=h4
    obtain⟨x3,hx3⟩:=h7
    obtain⟨x4,hx4,k3,k4⟩:=h18
    refine aj (.agg (jO ⟨x1,0,x2,x3,false,x4,0⟩)) (ah rfl) (by simp[execOp,go_sem,E14,E17,E20,E31,hx1,hx2,hx3,hx4,jO]) ⟨x1,x2,x3,x4,rfl,k1,k2,k3,k4⟩
   ·intro ρ y W L hw hn hLi hLd hb hd
    refine bL (.pointer (some ⟨W.heap.size,0,none⟩)) (ah rfl) ?_ (IC hm hb) trivial
    simp[execOp,go_sem,jO]
   intro y W2 hbW2 hRW2
   have hy1:((aQ fun v => ∃x:Int,v = .int .i64 x∧0≤x∧x<12)).r (y 1) W2:=hRW2 1 (by decide)
   have hy3:((aQ fun v => ∃x:Int,v = .int .i64 x)).r (y 3) W2:=hRW2 3 (by decide)
   have hy4:((aQ fun v => ∃u,v = .bool u)).r (y 4) W2:=hRW2 4 (by decide)
   have hy6:((aQ fun v => ∃x:Int,v = .int .i64 x)).r (y 6) W2:=hRW2 6 (by decide)
   have hy7:((aQ fun v => ∃u,v = .bool u)).r (y 7) W2:=hRW2 7 (by decide)
   have hy17:((aQ fun v => ∃x:Int,v = .int .i64 x∧0≤x∧x<(S.H.fi.length:Int)+1)).r (y 17) W2:=hRW2 17 (by decide)
   have hy18:((aQ fun v => ∃x:Int,v = .int .i64 x∧-1≤x∧x<S.H.fi.length)).r (y 18) W2:=hRW2 18 (by decide)
   have hy19:((aQ fun v => ∃fr rd wr fi,v = .agg (jO ⟨fr,0,rd,wr,false,fi,0⟩)∧0≤fr∧fr<12∧-1≤fi∧fi<S.H.fi.length)).r (y 19) W2:=hRW2 19 (by decide)
   have hy20:((aQ fun _=>True)).r (y 20) W2:=hRW2 20 (by decide)
   clear hRW2
   obtain⟨⟨a2,c2,l2,h2,s2,_⟩,hbox⟩:=hbW2
   obtain⟨gx,hgx,axz,hnx,hxw2⟩:=hbox rfl
   obtain⟨fr,rd,wr2,fi,hv,hb1,hb2,hb3,hb4⟩:=hy19
   rw[hv,hgx]
   clear hv hgx hbox
   rw[jN] at h2 s2
   have hown2:=s2.ownN hown hnu.out
   have hnu2:Hid (∀x,(Value.slice a A.length c).ownBlock=some x→¬iY b S x):=hnu
   have hna:=Lib.hid (hm.newA hxw2)
   have hux:Hid (∀x,(Value.slice a A.length c).ownBlock=some x→some gx≠some x):=Lib.hid fun x hx e=>by
    have:=zx hown x hx
    cases e
    omega
   have hxw:=Lib.hid (Nat.le_trans hs.size hxw2)
   have hxB:B≤gx:=Nat.le_trans hm.bs hxw2
   have hnx:=Lib.hid hnx
   have s2:=hs.trans s2
   clear hm hs hown hxw2
   go_wp2_with (refine az rfl _ _ _ rfl gx (jO ⟨fr,0,rd,wr2,false,fi,0⟩) rfl rfl _ _ axz rfl area_size (LA _) ?_)
   intro w3 ax3 hg3
   have h3:=h2.locA axz hnx.out hna.out hxB hg3
   have s3:=s2.loc hg3 hxw.out
   have hown3:=hown2.grown hg3 hux.out
   clear h2 s2 hown2 hg3 axz
   have hwf:IntKind.i64.wrap (fr+1)=fr+1:=IntWalk.i64_in _ (by omega)
   go_upto_region 4 with (fail)
   refine dN 7 [_,.v (.int .i64 fr),_,_,.r 4 ((aQ fun v => ∃x:Int,v = .int .i64 x∧0≤x∧x<4)),.r 5 ((aQ fun v => ∃x:Int,v = .int .i64 x∧fr<x∧x≤fr+4)),_] (DR (S.lst a2 c2 l2) B b w3 [(gx,jO ⟨fr,0,rd,wr2,false,fi,0⟩,99)]) aD (fun _=>⟨a2,c2,l2,h3,MS.refl _ _ _,by simpa using ⟨ax3,hnx.out⟩⟩) (Qf aD gx 0 rfl rfl (ag ?_ (Qb aD (.int .i64 (fr+1)) (by simp[go_sem,hwf]) rfl rfl rfl rfl rfl (Qk aD rfl (ag ?_ (ag ?_ (Qf aD gx 1 rfl rfl (aB)))))))) (fun _=>rfl) rfl ?_
   ·intro ρ y W L hw hn hLi hLd hb hd
    refine bY aD (fun _ _ h=>h) hb ?_
    have E33:=hw 33 0 rfl
    have h0:y 0=_:=hd 0 rfl
    obtain⟨a0,c0,l0,m1,m2,m3⟩:=hb
    have m3:=(m3 _ (List.mem_singleton.2 rfl)).1
    refine aj (.int .i64 fr) (ah rfl) (by simp[execOp,go_sem,E33,h0,m3.cell,jO]) rfl
   ·intro ρ y W L hw hn hLi hLd hb hd;have E36:=hw 36 3 rfl;have h3:y 3=_:=hd 3 rfl
    have EC:∀v,ρ (.const v)=v:=fun v=>hn (.const v) trivial
    have EF:∀f,ρ (.func f) = .func (.func f) #[] #[]:=fun f=>hn (.func f) trivial
    refine eF _ _ (ah rfl) (aK rfl (EF _) Tryz.func30 (by kernel_rfl) (by kernel_rfl) (by simp only[List.map_toArray,List.map_cons,List.map_nil,E36,h3,EC,EF];rfl)) ?_
    exact rV 4 (by omega) hb fun x h1 h2 h3 _=>⟨x,rfl,h1,by omega⟩
   ·intro ρ y W L hw hn hLi hLd hb hd
    refine bY aD (fun _ _ h=>h) hb ?_
    have E35:=hw 35 2 rfl
    have h2:y 2=_:=hd 2 rfl
    have E37:=hw 37 4 rfl
    have h4:=hd 4 rfl
    obtain⟨x,hx,k1,k2⟩:=h4
    have hw9:IntKind.i64.wrap (fr+1+x)=fr+1+x:=IntWalk.i64_in _ (by omega)
    refine aj (.int .i64 (fr+1+x)) (ah rfl) (kE rfl (E35.trans h2) (E37.trans hx) (by simp[go_sem,hw9])) ⟨_,rfl,by omega,by omega⟩
   intro y W4 hbW4 hRW4
   have hy4:((aQ fun v => ∃x:Int,v = .int .i64 x∧0≤x∧x<4)).r (y 4) W4:=hRW4 4 (by decide)
   have hy5:((aQ fun v => ∃x:Int,v = .int .i64 x∧fr<x∧x≤fr+4)).r (y 5) W4:=hRW4 5 (by decide)
   clear hRW4
   obtain⟨a4,c4,l4,h4,s4,hks⟩:=hbW4
   have ax4:=(hks _ (List.mem_singleton.2 rfl)).1
   rw[jN] at h4 s4
   have hown4:=s4.ownN hown3 hnu2.out
   have s4:=s3.trans s4
   obtain⟨en,hv,he1,he2⟩:=hy5
   rw[hv]
   clear hv hks h3 s3 hown3 ax3 hwf
   go_wp2_with (refine aC rfl _ _ _ rfl gx 1 _ [.int .i64 en] rfl rfl rfl _ _ ax4 (by show 1+1≤7;omega) (by kernel_rfl) (fun u hu=>by cases List.mem_singleton.1 hu;rfl) ?_)
   intro w5 ax5 hg5
   rw[show bC (jO ⟨fr,0,rd,wr2,false,fi,0⟩) 1 [.int .i64 en]=jO ⟨fr,en,rd,wr2,false,fi,0⟩ from rfl] at ax5
   have h5:=h4.locA ax4 hnx.out hna.out hxB hg5
   have s5:=s4.loc hg5 hxw.out
   have hown5:=hown4.grown hg5 hux.out
   clear h4 s4 hown4 ax4 hg5
   have hcx:=ax5.cell
   unfold jO at hcx
   go_upto_if 42 with (fail)
   go_cut [2] (fun s2 wx=>s2 = .slice a A.length c∧∃(X:Ar) (a:Option Addr) (cl:Nat) (l:List UInt8),aF wx gx (jO X) 99∧dm wx B b (S.lst a cl l)∧MS w b S wx (S.lst a cl l)∧Own wx B 99 7 s2 A.length (A.flatMap iE)∧Hid (X.fi<S.H.fi.length))
   case first=>
    by_cases hfi0:0≤fi
    ·go_wp2_with fail
     refine (dH _ 2 B b _ h5 (by omega)).mono ?_
     rintro r w6 ⟨x6,a6,c6,l6,rfl,h6,s6,_,_⟩
     rw[jN] at h6 s6
     have ax6:=s6.blkN ax5 hnx.out
     have own6:=s6.ownN hown5 hnu2.out
     have s6:=s5.trans s6
     clear h5 s5 hown5 hcx ax5
     go_wp2_with fail
     refine (dH _ 4 B b _ h6 (by omega)).mono ?_
     rintro r w7 ⟨x7,a7,c7,l7,rfl,h7,s7,_,_⟩
     rw[jN] at h7 s7
     have ax7:=s7.blkN ax6 hnx.out
     have own7:=s7.ownN own6 hnu2.out
     have s7:=s6.trans s7
     clear h6 s6 own6 ax6
     go_wp2_with (refine aC rfl _ _ _ rfl gx 4 _ [.bool (x6==1)] rfl rfl rfl _ _ ax7 (by show 4+1≤7;omega) (by kernel_rfl) (fun u hu=>by cases List.mem_singleton.1 hu;rfl) ?_)
     intro w8 ax8 hg8
     rw[show bC (jO ⟨fr,en,rd,wr2,false,fi,0⟩) 4 [.bool (x6==1)]=jO ⟨fr,en,rd,wr2,x6==1,fi,0⟩ from rfl] at ax8
     have h8:=h7.locA ax7 hnx.out hna.out hxB hg8
     have s8:=s7.loc hg8 hxw.out
     have own8:=own7.grown hg8 hux.out
     clear h7 s7 own7 ax7 hg8
     go_wp2_with (refine aC rfl _ _ _ rfl gx 6 _ [.int .i64 x7] rfl rfl rfl _ _ ax8 (by show 6+1≤7;omega) (by kernel_rfl) (fun u hu=>by cases List.mem_singleton.1 hu;rfl) ?_)
     intro w9 ax9 hg9
     rw[show bC (jO ⟨fr,en,rd,wr2,x6==1,fi,0⟩) 6 [.int .i64 x7]=jO ⟨fr,en,rd,wr2,x6==1,fi,x7⟩ from rfl] at ax9
     have h9:=h8.locA ax8 hnx.out hna.out hxB hg9
     have s9:=s8.loc hg9 hxw.out
     have own9:=own8.grown hg9 hux.out
     clear h8 s8 own8 ax8 hg9
     go_wp2
     go_meet
     case rel=>exact⟨rfl,_,a7,c7,l7,ax9,h9,s9,own9,Lib.hid hb4⟩
    ·go_wp2
     go_meet
     case rel=>exact⟨rfl,_,a4,c4,l4,ax5,h5,s5,hown5,Lib.hid hb4⟩
   case rest=>
    obtain⟨rfl,X,a6,c6,l6,ax6,h6,s6,own6,hXf⟩:=hcut
    clear h5 s5 hown5 ax5 hcx
    go_wp2_with (refine ay _ _ rfl gx 0 rfl rfl _ ax6.rd _ Tryz.underlying99 rfl area_size ?_)
    refine (Ji A X a c _ (have h9:=mP own6;⟨h9.le,h9.mx,h9.nl,h9.rd⟩)).mono ?_
    rintro r w7 ⟨v7,rfl,own7,hb7⟩
    obtain⟨a7,c7,rfl,_⟩:=own7.rd
    have own7:=own7.mono h6.bs
    have h7:=h6.below hb7
    have s7:=s6.below hb7
    have own6:=own6.below hb7
    clear h6 s6 ax6 hb7 hnu hnu2 hux hnx hna hxw hxB
    by_cases hme:um A X=0
    ·have hmr:=Dp hme
     have hnew:Hid ((aZ (qI A X)).1=0∧(∀n g,onA (qI A X) n=some g→g.fi<S.H.fi.length)∧(k+1=0→qI A X=[]∧l6=l1)):=Lib.hid ⟨fe.2 ⟨hmr.1,hmr.2.1⟩,fun n g hg=>by
      rw[hmr.2.2] at hg
      split at hg
      ·cases hg;exact hXf.out
      ·exact hA.out.2.1 n g hg,fun e=>by omega⟩
     clear hmr
     rw[hme]
     go_wp2
     go_roundw
     case rel=>exact⟨k+1,qI A X,a7,c7,a6,c6,l6,by omega,by go_num,rfl,own7,h7,s7,hnew⟩
     case measure=>simp[intOf];omega
    ·have hnew:Hid ((aZ A).1=0∧(∀n g,onA A n=some g→g.fi<S.H.fi.length)∧(k+1=0→A=[]∧l6=l1)):=Lib.hid ⟨hA.out.1,hA.out.2.1,fun e=>by omega⟩
     go_wp2
     go_roundw
     case rel=>exact⟨k+1,A,a,c,a6,c6,l6,by omega,by go_num,rfl,own6,h7,s7,hnew⟩
     case measure=>simp[intOf];omega
  ·have hki:¬(k:Int)<(N:Int):=by omega
   obtain rfl:k=N:=by omega
   have hAl:A.length≤16:=(fe.1 hA.out.1).1
   have hc:=hm.blk.cell
   unfold eP at hc
   dsimp only[MW.lst] at hc
   have hownP:=hm.ma.sp
   dsimp only[MW.lst] at hownP
   go_wp2_with (at_builtin;go_must (refine jm rfl _ _ 39 rfl B 55 _ 10 224 Tryz.underlying39 space_info rfl (by decide) _ S.H.sp.length (S.H.sp.flatMap lg) rfl (hownP.alloc _) (some ⟨wr.heap.size,0,none⟩) 1 1 (lg ⟨true,a,c,A,nTs,zTb⟩) rfl (fun h=>(by cases h)) (Nat.le_refl _) rfl (cZ.new _ (nA ⟨true,a,c,A,nTs,zTb⟩) _) (bv (by simp[nA,nTs,Value.oneCell'])) (by unfold maxLen;omega) (by omega) (dz hm.bs _) ?_))
   intro v2 w2 own2 hg2 hsn2
   have hal:=(Below.refl wr.heap.size wr).alloc (Nat.le_refl _) (.cells (nA (⟨true,a,c,A,nTs,zTb⟩:PS)) 55)
   have hm1:=hm.below hal
   have hs1:=hs.below hal
   have hown1:=hown.below hal
   have hownP1:Own (wr.alloc (.cells (nA (⟨true,a,c,A,nTs,zTb⟩:PS)) 55)) B 55 10 (.slice S.H.ap S.H.sp.length S.H.cp) S.H.sp.length (S.H.sp.flatMap lg):=hm1.ma.sp
   have hown2:=eQ hownP1 hg2 hown1 (by decide)
   have hbk2:=nk hownP1 hg2 hm1.blk (by decide)
   have hps2:∀p∈S.H.sp++[(⟨true,a,c,A,nTs,zTb⟩:PS)],Own w2 B 99 7 (.slice p.aa p.ar.length p.ac) p.ar.length (p.ar.flatMap iE)∧lc w2 B (iP p.ts) p.tb:=fun p hp=>by
    rcases List.mem_append.1 hp with hp|hp
    ·exact⟨eQ hownP1 hg2 (hm1.ma.ps p hp).1 (by decide),rQ hownP1 hg2 (hm1.ma.ps p hp).2⟩
    ·rw[List.mem_singleton.1 hp]
     exact⟨hown2,oU _ _⟩
   obtain⟨a2,c2,rfl,_⟩:=own2.rd
   have hlen2:(S.H.sp++[(⟨true,a,c,A,nTs,zTb⟩:PS)]).length=S.H.sp.length+1:=by simp
   have own2' : Own w2 B 55 10 (.slice a2 (S.H.sp++[(⟨true,a,c,A,nTs,zTb⟩:PS)]).length c2) (S.H.sp++[(⟨true,a,c,A,nTs,zTb⟩:PS)]).length ((S.H.sp++[(⟨true,a,c,A,nTs,zTb⟩:PS)]).flatMap lg):=by
    rw[hlen2,List.flatMap_append]
    simpa using own2
   clear hc hm hs hown hown1 hownP own2 hnu
   go_wp2_with (refine aC rfl _ _ _ rfl b 11 _ [.slice a2 (S.H.sp.length+1) c2] rfl rfl rfl _ _ hbk2 (by show 11+1≤13;omega) (by kernel_rfl) (fun u hu=>by cases List.mem_singleton.1 hu;rfl) ?_)
   intro w3 hb3 hg3
   have h3:dm w3 B b { S.lst al cl ll with H:={ S.H with ap:=a2,cp:=c2,sp:=S.H.sp++[(⟨true,a,c,A,nTs,zTb⟩:PS)] } }:=hm1.appP hg2 own2' hps2 (by rw[hlen2];exact hb3) hg3
   have s3:MS w b S w3 { S.lst al cl ll with H:={ S.H with ap:=a2,cp:=c2,sp:=S.H.sp++[(⟨true,a,c,A,nTs,zTb⟩:PS)] } }:=hs1.app hm1 hownP1 (by simp[dZ,MW.lst]) hg2 hg3 hsn2 (fun x hx=>by
    rcases hx with hx|hx
    ·exact .inl (.inl hx)
    ·simp only[dZ,MW.lst,List.mem_cons,List.not_mem_nil,or_false] at hx
     rcases hx with hx|hx|hx|hx|hx|hx|hx|hx|hx<;>first|exact .inr hx.symm|exact .inl (.inr (by simp[dZ,MW.lst,hx])))
   have hT100:S.T.length≤100:=by
    have h9:=hd'.out.ok.len
    have h8:S.H.ma.sp.length=S.H.sp.length:=List.length_map _
    omega
   clear hm1 hs1 hownP1 hbk2 hps2 own2' hb3 hg3 hsn2 hg2 hal hown2
   have hc:=h3.blk.cell
   unfold eP at hc
   dsimp only[MW.lst] at hc
   have hownT:Own w3 B 90 192 (.slice S.ab S.T.length S.cb) S.T.length (S.T.flatMap tL):=h3.tt
   go_wp2_with (at_builtin;go_must (refine uP rfl _ _ rfl (by kernel_rfl) B (.slice S.ab S.T.length S.cb) S.T.length (S.T.flatMap tL) rfl hownT rfl hT100 h3.bs ?_))
   intro v4 w4 own4 hg4 hsn4
   have hal3:=(Below.refl w3.heap.size w3).alloc (Nat.le_refl _) (.cells (tL (List.replicate 64 zEn)).toArray 90)
   have h3a:=h3.below hal3
   have s3a:=s3.below hal3
   have hownTa:=hownT.below hal3
   have hbk4:aF w4 b (eP { S.lst al cl ll with H:={ S.H with ap:=a2,cp:=c2,sp:=S.H.sp++[(⟨true,a,c,A,nTs,zTb⟩:PS)] } }) 77:=by
    rcases lW hownTa hg4 with hb0|⟨g,cs,hk,_,hg'⟩
    ·exact h3a.blk.ext hb0
    ·exact bD h3a.blk hk (by decide) hg'
   obtain⟨a4,c4,rfl,_⟩:=own4.rd
   have hlen4:(S.T++[List.replicate 64 zEn]).length=S.T.length+1:=by simp
   have own4' : Own w4 B 90 192 (.slice a4 (S.T++[List.replicate 64 zEn]).length c4) (S.T++[List.replicate 64 zEn]).length ((S.T++[List.replicate 64 zEn]).flatMap tL):=by
    rw[hlen4,List.flatMap_append]
    simpa using own4
   clear hc h3 s3 hownT own4 hal3
   go_wp2_with (refine aC rfl _ _ _ rfl b 12 _ [.slice a4 (S.T.length+1) c4] rfl rfl rfl _ _ hbk4 (by show 12+1≤13;omega) (by kernel_rfl) (fun u hu=>by cases List.mem_singleton.1 hu;rfl) ?_)
   intro w5 hb5 hg5
   have h5:dm w5 B b { S.lst al cl ll with H:={ S.H with ap:=a2,cp:=c2,sp:=S.H.sp++[(⟨true,a,c,A,nTs,zTb⟩:PS)] },ab:=a4,cb:=c4,T:=S.T++[List.replicate 64 zEn] }:=h3a.appT hg4 own4' (by rw[hlen4];exact hb5) hg5
   have s5:MS w b S w5 { S.lst al cl ll with H:={ S.H with ap:=a2,cp:=c2,sp:=S.H.sp++[(⟨true,a,c,A,nTs,zTb⟩:PS)] },ab:=a4,cb:=c4,T:=S.T++[List.replicate 64 zEn] }:=s3a.app h3a hownTa (by simp[dZ,MW.lst]) hg4 hg5 hsn4 (fun x hx=>by
    rcases hx with hx|hx
    ·exact .inl (.inl hx)
    ·simp only[dZ,MW.lst,List.mem_cons,List.not_mem_nil,or_false] at hx
     rcases hx with hx|hx|hx|hx|hx|hx|hx|hx|hx<;>first|exact .inr hx.symm|exact .inl (.inr (by simp[dZ,MW.lst,hx])))
   clear h3a s3a hownTa hbk4 own4' hb5 hg5 hsn4 hg4
   have hma5:({ S.lst al cl ll with H:={ S.H with ap:=a2,cp:=c2,sp:=S.H.sp++[(⟨true,a,c,A,nTs,zTb⟩:PS)] },ab:=a4,cb:=c4,T:=S.T++[List.replicate 64 zEn] }:MW).H.ma = { S.H.ma with sp:=S.H.ma.sp++[⟨true,A,zTb⟩] }:=by simp[MH.ma,PS.sp]
   have hbd5:Bd ({ S.lst al cl ll with H:={ S.H with ap:=a2,cp:=c2,sp:=S.H.sp++[(⟨true,a,c,A,nTs,zTb⟩:PS)] },ab:=a4,cb:=c4,T:=S.T++[List.replicate 64 zEn] }:MW).H.ma ({ S.lst al cl ll with H:={ S.H with ap:=a2,cp:=c2,sp:=S.H.sp++[(⟨true,a,c,A,nTs,zTb⟩:PS)] },ab:=a4,cb:=c4,T:=S.T++[List.replicate 64 zEn] }:MW).T:=by
    rw[hma5]
    exact hd'.out.more (s:=⟨true,A,zTb⟩) (by show (S.H.sp.map PS.sp).length<4;rw[List.length_map];exact hl4) rfl hA.out.1
   have hmore:Hid (More S { S.lst al cl ll with H:={ S.H with ap:=a2,cp:=c2,sp:=S.H.sp++[(⟨true,a,c,A,nTs,zTb⟩:PS)] },ab:=a4,cb:=c4,T:=S.T++[List.replicate 64 zEn] }):=Lib.hid ⟨hbd5,fun p hp n g hg=>by
    rcases List.mem_append.1 hp with hp|hp
    ·exact hf'.out p hp n g hg
    ·rw[List.mem_singleton.1 hp] at hg
     exact hA.out.2.1 n g hg,rfl,rfl,rfl,by simp,rfl⟩
   have hTl:S.T.length=S.H.sp.length:=by
    have h9:=hd'.out.ok.len
    have h8:S.H.ma.sp.length=S.H.sp.length:=List.length_map _
    omega
   have hent5:Hid (∀j:Nat,(dG ({ S.lst al cl ll with H:={ S.H with ap:=a2,cp:=c2,sp:=S.H.sp++[(⟨true,a,c,A,nTs,zTb⟩:PS)] },ab:=a4,cb:=c4,T:=S.T++[List.replicate 64 zEn] }:MW).T S.H.sp.length j).k=0):=Lib.hid fun j=>by
    unfold dG dE
    rw[List.getD_eq_getElem?_getD (l:=S.T++_),List.getElem?_append_right (by omega),←hTl,Nat.sub_self]
    show ((List.replicate 64 zEn).getD j zEn).k=0
    rw[List.getD_eq_getElem?_getD,List.getElem?_replicate]
    split<;>rfl
   have hspn5:Hid (bP ({ S.lst al cl ll with H:={ S.H with ap:=a2,cp:=c2,sp:=S.H.sp++[(⟨true,a,c,A,nTs,zTb⟩:PS)] },ab:=a4,cb:=c4,T:=S.T++[List.replicate 64 zEn] }:MW).H.ma S.H.sp.length=⟨true,A,zTb⟩):=Lib.hid (by
    rw[hma5]
    unfold bP
    have h8:S.H.ma.sp.length=S.H.sp.length:=List.length_map _
    rw[List.getD_eq_getElem?_getD,List.getElem?_append_right (by omega),h8,Nat.sub_self];rfl)
   have hpar5:∀W,dm W B b { S.lst al cl ll with H:={ S.H with ap:=a2,cp:=c2,sp:=S.H.sp++[(⟨true,a,c,A,nTs,zTb⟩:PS)] },ab:=a4,cb:=c4,T:=S.T++[List.replicate 64 zEn] }→cZ W a (A.flatMap iE):=fun W hW=>(mP (hW.ma.ps (⟨true,a,c,A,nTs,zTb⟩:PS) (List.mem_append_right _ (List.mem_singleton.2 rfl))).1).rd
   have hspl5:Hid (({ S.lst al cl ll with H:={ S.H with ap:=a2,cp:=c2,sp:=S.H.sp++[(⟨true,a,c,A,nTs,zTb⟩:PS)] },ab:=a4,cb:=c4,T:=S.T++[List.replicate 64 zEn] }:MW).H.sp.length=S.H.sp.length+1):=Lib.hid (by simp)
   have hq5:Hid (S.l=[]→A=[]∧({ S.lst al cl ll with H:={ S.H with ap:=a2,cp:=c2,sp:=S.H.sp++[(⟨true,a,c,A,nTs,zTb⟩:PS)] },ab:=a4,cb:=c4,T:=S.T++[List.replicate 64 zEn] }:MW).l=[]∧({ S.lst al cl ll with H:={ S.H with ap:=a2,cp:=c2,sp:=S.H.sp++[(⟨true,a,c,A,nTs,zTb⟩:PS)] },ab:=a4,cb:=c4,T:=S.T++[List.replicate 64 zEn] }:MW).H.ma = { S.H.ma with sp:=S.H.ma.sp++[⟨true,[],zTb⟩] }∧({ S.lst al cl ll with H:={ S.H with ap:=a2,cp:=c2,sp:=S.H.sp++[(⟨true,a,c,A,nTs,zTb⟩:PS)] },ab:=a4,cb:=c4,T:=S.T++[List.replicate 64 zEn] }:MW).T=S.T++[List.replicate 64 zEn]):=Lib.hid fun e=>by
    have h9:=hq1'.out e
    have hk0:k=0:=by omega
    have h8:=hA.out.2.2 hk0
    refine⟨h8.1,by show ll=[];rw[h8.2];exact h9.2,?_,rfl⟩
    rw[hma5,h8.1]
   have hrd5:=hpar5 _ h5
   have hspl:∀S9:MW,S9.H.sp=S.H.sp++[(⟨true,a,c,A,nTs,zTb⟩:PS)]→S9.H.sp.length=S.H.sp.length+1:=fun S9 e=>by rw[e];simp
   have hsp5:({ S.lst al cl ll with H:={ S.H with ap:=a2,cp:=c2,sp:=S.H.sp++[(⟨true,a,c,A,nTs,zTb⟩:PS)] },ab:=a4,cb:=c4,T:=S.T++[List.replicate 64 zEn] }:MW).H.sp=S.H.sp++[(⟨true,a,c,A,nTs,zTb⟩:PS)]:=rfl
   clear hma5 hpar5 hTl
   generalize ({ S.lst al cl ll with H:={ S.H with ap:=a2,cp:=c2,sp:=S.H.sp++[(⟨true,a,c,A,nTs,zTb⟩:PS)] },ab:=a4,cb:=c4,T:=S.T++[List.replicate 64 zEn] }:MW)=S5 at *
   have hlen5:=hspl S5 hsp5
   have hfi5:S5.H.fi=S.H.fi:=hmore.out.fi
   have hsr:srtF 0 A:=iX (fe.1 hA.out.1).2
   have hsr':=Lib.hid hsr
   have hc:=h5.blk.cell
   unfold eP at hc
   rw[hlen5] at hc
   have hwM:IntKind.i64.wrap (((S.H.sp.length+1:Nat):Int)-1)=(S.H.sp.length:Int):=by rw[IntWalk.i64_in _ (by omega)];omega
   have hbd5':=Lib.hid hbd5
   clear hbd5 hsr hspl hlen5 hfi5 hsp5 hT100 hlen4 hlen2
   go_wp2_with fail
   refine (kG A a c _ hrd5 (by omega) (fun x hx=>(srtF_ok hsr'.out x hx).1)).mono ?_
   rintro r w6 ⟨rfl,hb6⟩
   have h6:=h5.below hb6
   have s6:=s5.below hb6
   have hspl5':=Lib.hid hspl5
   clear h5 s5 hc hrd5 hwM hb6
   go_upto_region 15 with (fail)
   go_loopw [92] (fun i wr => ∃(n:Nat) (Sn:MW),n≤64∧i = .int .i64 n∧dm wr B b Sn∧MS w b S wr Sn∧Hid (Ah S5 Sn∧Bd Sn.H.ma Sn.T∧(∀j:Nat,n≤j→(dG Sn.T S.H.sp.length j).k=0)∧(A=[]→Sn=S5))) (fun i _=>64-(intOf i).toNat)
   case atStart=>exact⟨0,S5,Nat.zero_le _,rfl,h6,s6,Lib.hid ⟨.refl _,hbd5'.out,fun j _=>hent5.out j,fun _=>rfl⟩⟩
   case round=>
    clear h6 s6
    obtain⟨n,Sn,hn,rfl,hm,hs,hN⟩:=hrel
    by_cases hn64:n<64
    ·have hni:(n:Int)<64:=by omega
     cases hfk:bF A n with
     | none=>
      have hix:=sJ (bF A) n hn64 none hfk
      unfold nW oR oW oH oF oP at hix
      have hfk':=Lib.hid hfk
      clear hfk
      go_upto_region 17 with (fail)
      refine fo (fun W=>Code.wp _ _ _ _ W) fun W1 hb1 hx1 hs1 => ?_
      have hcx:=hx1.cell
      have hm1:=hm.below hb1
      have hs2:=hs.below hb1
      clear hs1 hb1 hm hs hix
      go_wp2
      go_roundw
      case rel=>exact⟨n+1,Sn,by omega,by go_num,hm1,hs2,Lib.hid ⟨hN.out.1,hN.out.2.1,fun j hj=>hN.out.2.2.1 j (by omega),hN.out.2.2.2⟩⟩
      case measure=>simp[intOf];omega
     | some g=>
      have hix:=sJ (bF A) n hn64 (some g) hfk
      unfold nW oR oW oH oF oP at hix
      dsimp only[Option.isSome] at hix
      have hfk':=Lib.hid hfk
      clear hfk
      go_upto_region 17 with (fail)
      refine fo (fun W=>Code.wp _ _ _ _ W) fun W1 hb1 hx1 hs1 => ?_
      have hcx:=hx1.cell
      have hm1:=hm.below hb1
      have hs2:=hs.below hb1
      clear hs1 hb1 hm hs hix
      have hgA:onA A n=some g:=by rw[←kH hsr'.out];exact hfk'.out
      have hpi:=pg_in hsr'.out hgA
      have hgA':=Lib.hid hgA
      have hpi':=Lib.hid hpi
      have hspS:Hid (bP Sn.H.ma S.H.sp.length=⟨true,A,zTb⟩):=Lib.hid (by
       rw[←hspn5.out]
       show (Sn.H.sp.map PS.sp).getD _ zSp=(S5.H.sp.map PS.sp).getD _ zSp
       rw[hN.out.1.sp])
      clear hgA hpi
      go_wp2_with (refine ay _ _ rfl wr.heap.size 0 rfl rfl _ hx1.rd _ Tryz.underlying109 rfl one_size ?_)
      refine (Df Sn S.H.sp.length n g B b _ hm1 hN.out.2.1 (by rw[hN.out.1.sp,hspl5'.out.out];omega) hn64 (hN.out.2.2.1 n (Nat.le_refl _)) (by rw[hspS.out];exact hgA'.out) (by rw[hN.out.1.fi,hmore.out.fi];exact hA.out.2.1 _ _ hgA'.out) hpi'.out.1 (fun h=>by
       rcases Int.lt_or_le g.fi 0 with h9|h9
       ·have:=(hpi'.out.2.2.2.2.1 h9).1
        rw[h] at this;simp at this
       ·exact h9)).mono ?_
      rintro r w7 ⟨S7,rfl,h7,s7,k7,bd7,ent7⟩
      have hs7:=hs2.trans s7
      have hN7:Hid (Ah S5 S7∧Bd S7.H.ma S7.T∧(∀j:Nat,n+1≤j→(dG S7.T S.H.sp.length j).k=0)∧(A=[]→S7=S5)):=Lib.hid ⟨hN.out.1.trans k7,bd7,fun j hj=>by rw[ent7 _ _ (by omega)];exact hN.out.2.2.1 j (by omega),fun e=>by
       have h9:=hgA'.out
       rw[e] at h9;cases h9⟩
      clear hm1 hs2 s7 k7 bd7 ent7 hx1 hcx
      go_wp2
      go_roundw
      case rel=>exact⟨n+1,S7,by omega,by go_num,h7,hs7,hN7⟩
      case measure=>simp[intOf];omega
    ·have hni:¬(n:Int)<64:=by omega
     go_wp2
     refine bodyPost_ret (v:=.tuple #[]) (by simp[results,go_sem,Tryz.results35]) rfl ?_
     have hK:=hN.out.1
     have hM:=hmore.out
     refine⟨Sn,rfl,hm,hs,⟨hN.out.2.1,fun p hp n g hg => ?_,hK.fi.trans hM.fi,hK.ct.trans hM.ct,hK.dk.trans hM.dk,by rw[hK.sp];exact hM.sp,hK.fl.trans hM.fs⟩,fun e => ?_⟩
     ·rw[hK.sp] at hp
      rw[hK.fi]
      exact hM.fm p hp n g hg
     ·have h9:=hq5.out e
      rw[hN.out.2.2.2 h9.1]
      exact h9.2
theorem dm.putD {w w' : World} {B b : Nat} {S : MW} (h : dm w B b S) {g : Nat} {cs : Array Value} (hk : aF w g cs 79) (hgB : B ≤ g) (hga : oB S.H.db = some g) (hg : w.grownBy w' (some g)) {l : List Page} (hl : l.length = S.H.dk.blocks.length) (ho : Own w' B 79 8 (.slice S.H.db l.length S.H.cdb) l.length (l.flatMap vJ)) :
    dm w' B b { S with H := { S.H with dk := ⟨l, S.H.dk.queue⟩ } } :=
  ⟨by
    have h1 := bD h.blk hk (by decide) hg
    have e : eP { S with H := { S.H with dk := ⟨l, S.H.dk.queue⟩ } } = eP S := by unfold eP; rw [show ({ S.H with dk := ⟨l, S.H.dk.queue⟩ } : MH).dk.blocks.length = S.H.dk.blocks.length from hl]
    rw [e]; exact h1, h.ge,
   ⟨ak h.ma.fr hk (by decide) hg, ak h.ma.sl hk (by decide) hg, ⟨h.ma.sw.b.grown hg (fun g' hg' e => by
      cases e
      rw [iK] at hg'
      exact h.n1 _ hg' hga), ak h.ma.sw.q hk (by decide) hg⟩, ⟨ho, ak h.ma.dk.q hk (by decide) hg⟩, h.ma.st.keep hk (by decide) (by decide) hg, ak h.ma.ca hk (by decide) hg, ak h.ma.sp hk (by decide) hg, fun p hp => ⟨ak (h.ma.ps p hp).1 hk (by decide) hg, (h.ma.ps p hp).2.keep hk (by decide) hg⟩, h.ma.c64⟩,
   ak h.tt hk (by decide) hg, h.rd.keep h.ra h.bs hg hgB, h.ra, h.n1, h.n2, h.n3⟩
theorem dm.appQ {w w1 w2:World} {B b:Nat} {S:MW} (h:dm w B b S) (hg:w.grownBy w1 (Value.slice S.H.dq S.H.dk.queue.length S.H.cdq).ownBlock) {a:Option Addr} {c:Nat} {l:List (Int × Page)} (ho:Own w1 B 86 9 (.slice a l.length c) l.length (l.flatMap uK))
  (hb:aF w2 b (bC (eP S) 7 [.slice a l.length c]) 77) (hg2:w1.grownBy w2 (some b)) :
  dm w2 B b { S with H:={ S.H with dq:=a,cdq:=c,dk:=⟨S.H.dk.blocks,l⟩ } }:=by
 have hq0:Own w B 86 9 (.slice S.H.wq S.H.sw.queue.length S.H.cwq) S.H.sw.queue.length (S.H.sw.queue.flatMap uK):=h.ma.sw.q
 have key:aF w1 b (eP S) 77∧Own w1 B 81 13 (.slice S.H.af S.H.m.fs.length S.H.cf) S.H.m.fs.length (S.H.m.fs.flatMap nE)∧Own w1 B 3 1 (.slice S.H.asl S.H.sl.length S.H.csl) S.H.sl.length (S.H.sl.map dL) ∧
   jc w1 B (.slice S.H.wb S.H.sw.blocks.length S.H.cwb) (.slice S.H.wq S.H.sw.queue.length S.H.cwq) S.H.sw∧Own w1 B 79 8 (.slice S.H.db S.H.dk.blocks.length S.H.cdb) S.H.dk.blocks.length (S.H.dk.blocks.flatMap vJ)∧rA w1 B (.slice S.H.ai S.H.fi.length S.H.ci) S.H.fi ∧
   Own w1 B 106 3 (.slice S.H.ac S.H.ca.length S.H.cc) S.H.ca.length (S.H.ca.flatMap kS)∧Own w1 B 55 10 (.slice S.H.ap S.H.sp.length S.H.cp) S.H.sp.length (S.H.sp.flatMap lg) ∧
   (∀p∈S.H.sp,Own w1 B 99 7 (.slice p.aa p.ar.length p.ac) p.ar.length (p.ar.flatMap iE)∧lc w1 B (iP p.ts) p.tb)∧Own w1 B 90 192 (.slice S.ab S.T.length S.cb) S.T.length (S.T.flatMap tL)∧lX w1 S.al S.cl S.l.length (S.l.map kT):=by
  rcases lW h.ma.dk.q hg with hb0|⟨g,cs,hk,hga,hg'⟩
  ·have h1:=h.below hb0
   exact⟨h1.blk,h1.ma.fr,h1.ma.sl,h1.ma.sw,h1.ma.dk.b,h1.ma.st,h1.ma.ca,h1.ma.sp,h1.ma.ps,h1.tt,h1.rd⟩
  ·exact⟨bD h.blk hk (by decide) hg',ak h.ma.fr hk (by decide) hg',ak h.ma.sl hk (by decide) hg',⟨ak h.ma.sw.b hk (by decide) hg',hq0.grown hg' (fun g' he=>by rw[h.n3] at he;cases he)⟩,ak h.ma.dk.b hk (by decide) hg',h.ma.st.keep hk (by decide) (by decide) hg',ak h.ma.ca hk (by decide) hg',ak h.ma.sp hk (by decide) hg',fun p hp=>⟨ak (h.ma.ps p hp).1 hk (by decide) hg',(h.ma.ps p hp).2.keep hk (by decide) hg'⟩,ak h.tt hk (by decide) hg',h.rd.keep h.ra h.bs hg' (fD h.ma.dk.q hga).1⟩
 obtain⟨k0,k1,k2,k3,k4,k5,k6,k7,k8,k9,k10⟩:=key
 exact⟨hb,h.ge,⟨ak k1 k0 (by decide) hg2,ak k2 k0 (by decide) hg2,k3.keep k0 (by decide) (by decide) hg2,⟨ak k4 k0 (by decide) hg2,ak ho k0 (by decide) hg2⟩,k5.keep k0 (by decide) (by decide) hg2,ak k6 k0 (by decide) hg2,ak k7 k0 (by decide) hg2,fun p hp=>⟨ak (k8 p hp).1 k0 (by decide) hg2,(k8 p hp).2.keep k0 (by decide) hg2⟩,h.ma.c64⟩,
  ak k9 k0 (by decide) hg2,k10.keep h.ra (Nat.le_trans h.ge (Nat.le_of_lt k0.lt)) hg2 h.ge,h.ra,h.n1,h.n2,h.n3⟩
theorem dm.appFi {w w1 w2:World} {B b:Nat} {S:MW} (h:dm w B b S) {p:PF} (hp:Own w B 3 1 (lY p) p.l.length (p.l.map dL)) (hap:∀(i:Nat) q,S.H.fi[i]?=some q→Apart (lY q) (lY p)) (hasl:∀x,oB p.a=some x→oB S.H.asl≠some x)
  (hg:w.grownBy w1 (Value.slice S.H.ai S.H.fi.length S.H.ci).ownBlock) {a:Option Addr} {c:Nat} (ho:Own w1 B 67 2 (.slice a (S.H.fi++[p]).length c) (S.H.fi.length+1) (S.H.fi.flatMap pG++pG p))
  (hb:aF w2 b (bC (eP S) 8 [.slice a (S.H.fi++[p]).length c]) 77) (hg2:w1.grownBy w2 (some b)):dm w2 B b { S with H:={ S.H with ai:=a,ci:=c,fi:=S.H.fi++[p] } }:=by
 have hF:rA w1 B (.slice a (S.H.fi++[p]).length c) (S.H.fi++[p]):=h.ma.st.app ho hp hg hap
 have key:aF w1 b (eP S) 77∧Own w1 B 81 13 (.slice S.H.af S.H.m.fs.length S.H.cf) S.H.m.fs.length (S.H.m.fs.flatMap nE)∧Own w1 B 3 1 (.slice S.H.asl S.H.sl.length S.H.csl) S.H.sl.length (S.H.sl.map dL) ∧
   jc w1 B (.slice S.H.wb S.H.sw.blocks.length S.H.cwb) (.slice S.H.wq S.H.sw.queue.length S.H.cwq) S.H.sw∧jc w1 B (.slice S.H.db S.H.dk.blocks.length S.H.cdb) (.slice S.H.dq S.H.dk.queue.length S.H.cdq) S.H.dk ∧
   Own w1 B 106 3 (.slice S.H.ac S.H.ca.length S.H.cc) S.H.ca.length (S.H.ca.flatMap kS)∧Own w1 B 55 10 (.slice S.H.ap S.H.sp.length S.H.cp) S.H.sp.length (S.H.sp.flatMap lg) ∧
   (∀p∈S.H.sp,Own w1 B 99 7 (.slice p.aa p.ar.length p.ac) p.ar.length (p.ar.flatMap iE)∧lc w1 B (iP p.ts) p.tb)∧Own w1 B 90 192 (.slice S.ab S.T.length S.cb) S.T.length (S.T.flatMap tL)∧lX w1 S.al S.cl S.l.length (S.l.map kT):=by
  rcases lW h.ma.st.own hg with hb0|⟨g,cs,hk,hga,hg'⟩
  ·have h1:=h.below hb0
   exact⟨h1.blk,h1.ma.fr,h1.ma.sl,h1.ma.sw,h1.ma.dk,h1.ma.ca,h1.ma.sp,h1.ma.ps,h1.tt,h1.rd⟩
  ·exact⟨bD h.blk hk (by decide) hg',ak h.ma.fr hk (by decide) hg',ak h.ma.sl hk (by decide) hg',h.ma.sw.keep hk (by decide) (by decide) hg',h.ma.dk.keep hk (by decide) (by decide) hg',ak h.ma.ca hk (by decide) hg',ak h.ma.sp hk (by decide) hg',fun p hp=>⟨ak (h.ma.ps p hp).1 hk (by decide) hg',(h.ma.ps p hp).2.keep hk (by decide) hg'⟩,ak h.tt hk (by decide) hg',h.rd.keep h.ra h.bs hg' (fD h.ma.st.own hga).1⟩
 obtain⟨k0,k1,k2,k3,k4,k6,k7,k8,k9,k10⟩:=key
 exact⟨hb,h.ge,⟨ak k1 k0 (by decide) hg2,ak k2 k0 (by decide) hg2,k3.keep k0 (by decide) (by decide) hg2,k4.keep k0 (by decide) (by decide) hg2,hF.keep k0 (by decide) (by decide) hg2,ak k6 k0 (by decide) hg2,ak k7 k0 (by decide) hg2,fun p hp=>⟨ak (k8 p hp).1 k0 (by decide) hg2,(k8 p hp).2.keep k0 (by decide) hg2⟩,h.ma.c64⟩,
  ak k9 k0 (by decide) hg2,k10.keep h.ra (Nat.le_trans h.ge (Nat.le_of_lt k0.lt)) hg2 h.ge,h.ra,h.n1,fun q hq x hx=>by
   rcases List.mem_append.1 hq with hq|hq
   ·exact h.n2 q hq x hx
   ·rw[List.mem_singleton.1 hq] at hx
    exact hasl x hx,h.n3⟩
theorem dm.putP {w w' : World} {B b : Nat} {S : MW} (h : dm w B b S) {g : Nat} {cs : Array Value} (hk : aF w g cs 55) (hgB : B ≤ g) (hg : w.grownBy w' (some g)) {sp : List PS} (hl : sp.length = S.H.sp.length) (ho : Own w' B 55 10 (.slice S.H.ap sp.length S.H.cp) sp.length (sp.flatMap lg))
    (hps : ∀ p ∈ sp, Own w B 99 7 (.slice p.aa p.ar.length p.ac) p.ar.length (p.ar.flatMap iE) ∧ lc w B (iP p.ts) p.tb) : dm w' B b { S with H := { S.H with sp := sp } } :=
  ⟨by
    have h1 := bD h.blk hk (by decide) hg
    have e : eP { S with H := { S.H with sp := sp } } = eP S := by unfold eP; rw [show ({ S.H with sp := sp } : MH).sp.length = S.H.sp.length from hl]
    rw [e]; exact h1, h.ge,
   ⟨ak h.ma.fr hk (by decide) hg, ak h.ma.sl hk (by decide) hg, h.ma.sw.keep hk (by decide) (by decide) hg, h.ma.dk.keep hk (by decide) (by decide) hg, h.ma.st.keep hk (by decide) (by decide) hg, ak h.ma.ca hk (by decide) hg, ho, fun p hp => ⟨ak (hps p hp).1 hk (by decide) hg, (hps p hp).2.keep hk (by decide) hg⟩, h.ma.c64⟩,
   ak h.tt hk (by decide) hg, h.rd.keep h.ra h.bs hg hgB, h.ra, h.n1, h.n2, h.n3⟩
theorem dm.setH {w w' : World} {B b : Nat} {S : MW} (h : dm w B b S) {x : Int} (hb : aF w' b (bC (eP S) 2 [.int .i64 x]) 77) (hg : w.grownBy w' (some b)) : dm w' B b { S with H := { S.H with m := ⟨S.H.m.fs, x⟩ } } :=
  ⟨hb, h.ge,
   have k := h.ma.keep h.blk (by decide) hg
   ⟨k.fr, k.sl, k.sw, k.dk, k.st, k.ca, k.sp, k.ps, k.c64⟩, ak h.tt h.blk (by decide) hg, h.rd.keep h.ra h.bs hg h.ge, h.ra, h.n1, h.n2, h.n3⟩
end Go.Proofs.YtjkkoeijlhfneaaGreat
namespace Pw
open Go Go.RowKit
theorem Jc {P:Program} {ops:Array Oper} {Q:Exit→Act→World→Prop} {id:Nat} {a0:Act} {w0:World} (m:Nat) (l:List iO) (J:(Nat→Bool)→(Nat→Value)→World→Prop) (hst:∀L y w w',Below w.heap.size w w'→J L y w→J L y w') (hJ0:∀y,J (fun _=>false) y w0) (hfix:Fixed l) (hm:P.follows .mixedOrders=true) (ops' : Array Oper) (hs:bJ ops=ops') (hok:fE ops' = true) (ht:eO ops' m=true) (hmn:m≤ops'.size)
  (n:Nat) (hn:a0.tmps.size=n) (hsz:fU ops' n=true)
  (hstep:aP (iB P ops' a0 J l) 0 (ops'.toList.take m))
  (hend:∀y w,J (fun i=>decide (i<m)) y w→(∀i,i<m→rl l i (y i) w)→wpList P ops' Q (ops'.toList.drop m) { a0 with tmps:=lay (fun i=>decide (i<m)) y ops'.toList 0 a0.tmps } w) :
  (Code.region id ops true).wp P Q a0 w0:=by
 refine wp_region_any hm (pO _ _ _ _ ?_)
 have h9:=tT m l J hst hJ0 hfix hok ht hmn n hn hsz hstep hend
 subst hs
 rw[nM] at h9
 exact h9
theorem pY {P:Program} {ops:Array Oper} {Q:Exit→Act→World→Prop} {id:Nat} {t0:Array Value} {df:List Deferred} {w0:World} (m:Nat) (l:List RV) (J:(Nat→Bool)→(Nat→Value)→World→Prop) (hst:∀L y w w',Below w.heap.size w w'→J L y w→J L y w') (hJ0:∀y,J (fun _=>false) y w0)
  (hstep:aP (iB P (bJ ops) ⟨t0,df⟩ J (rvs l)) 0 ((bJ ops).toList.take m)) {tm:(Nat→Value)→List Value} {rest:List Oper} (hf:∀y,qp y l (bJ ops).toList t0.toList=some (tm y)) (hd:wr ((bJ ops).toList.drop m)=some rest)
  (hend:∀y w,J (fun i=>decide (i<m)) y w→(∀i,i<m→rl (rvs l) i (y i) w)→wpList P (bJ ops) Q rest ⟨(tm y).toArray,df⟩ w)
  (hfix:Fixed (rvs l):=by repeat (first | exact fix_nil | refine xM (fun _ _ _ h=>h) ?_))
  (hm:P.follows .mixedOrders=true:=by kernel_rfl) (hok:fE (bJ ops)=true:=by kernel_rfl) (ht:eO (bJ ops) m=true:=by kernel_rfl) (hmn:m≤(bJ ops).size:=by decide) (hll:l.length=m:=by rfl) (hix:idxOk l 0=true:=by kernel_rfl)
  (hsz:fU (bJ ops) t0.size=true:=by kernel_rfl):(Code.region id ops true).wp P Q ⟨t0,df⟩ w0:=by
 refine Jc m (rvs l) J hst hJ0 hfix hm (bJ ops) rfl hok ht hmn _ rfl hsz hstep fun y w hb hR => ?_
 have h:=hend y w hb hR
 rw[Ak hd]
 show wpList P (bJ ops) Q rest ⟨lay (fun i=>decide (i<m)) y (bJ ops).toList 0 t0,df⟩ w
 rw[FC hix hll hmn hR (hf y)]
 exact h
end Pw
namespace Go.Proofs.YtjkkoeijlhfneaaGreat
open Go.RowKit Go.Maps Pw
def xV (S:MW) (B b:Nat) (w:World) (P:PS):(Nat→Bool)→(Nat→Value)→World→Prop:=fun L y W=>
 (∀k,10≤k→k<16→L (k+1)=true→L k=true)∧(L 16=true→L 5=true) ∧
 (L 16=false→dm W B b S∧MS w b S W S) ∧
 (L 15=true→L 16=false→∃a e,y 15 = .slice a 1 e∧lX W a e 1 (lg P)) ∧
 (L 16=true→∃w1,dm w1 B b S∧MS w b S w1 S∧w1.grownBy W (Value.slice S.H.ap S.H.sp.length S.H.cp).ownBlock∧Own W B 55 10 (y 16) (S.H.sp.length+1) (S.H.sp.flatMap lg++lg P)∧jV w1 (.slice S.H.ap S.H.sp.length S.H.cp) (y 16))
theorem BO {w w1 w2:World} {row:Option Nat} (hg:w.grownBy w1 row) (hb:Below w1.heap.size w1 w2):w.grownBy w2 row:=
 ⟨hb.os.trans hg.os,hb.tape.trans hg.tape,hb.output.trans hg.output,Nat.le_trans hg.size hb.size,fun k hk hn=>(hb.block k (Nat.lt_of_lt_of_le hk hg.size)).trans (hg.block k hk hn)⟩
theorem eU {S:MW} {B b:Nat} {w:World} {P:PS}:∀L y W W',Below W.heap.size W W'→xV S B b w P L y W→xV S B b w P L y W':=
 fun _ _ _ _ hb ⟨h1,h2,h3,h4,h5⟩=>⟨h1,h2,fun e=>⟨(h3 e).1.below hb,(h3 e).2.below hb⟩,fun e1 e2=>by
  obtain⟨a,e,k1,k2⟩:=h4 e1 e2
  exact⟨a,e,k1,k2.below hb⟩,fun e=>by
  obtain⟨w1,k1,k2,k3,k4,k5⟩:=h5 e
  exact⟨w1,k1,k2,BO k3 hb,k4.below hb,k5⟩⟩
theorem fH {S:MW} {B b:Nat} {w W:World} {P:PS} {L:Nat→Bool} {y:Nat→Value} {i:Nat} {v:Value} (hi:i≠15∧i≠16) (hd:∀k,10≤k→k<16→k+1=i→L k=true) (h:xV S B b w P L y W):xV S B b w P (bO L i) (cK y i v) W:=by
 obtain⟨h1,h2,h3,h4,h5⟩:=h
 have e15:bO L i 15=L 15:=by unfold bO;rw[if_neg (fun e=>hi.1 e.symm)]
 have e16:bO L i 16=L 16:=by unfold bO;rw[if_neg (fun e=>hi.2 e.symm)]
 have y15:cK y i v 15=y 15:=by unfold cK;rw[if_neg (fun e=>hi.1 e.symm)]
 have y16:cK y i v 16=y 16:=by unfold cK;rw[if_neg (fun e=>hi.2 e.symm)]
 have up:∀k,L k=true→bO L i k=true:=fun k hk=>by unfold bO;split<;>simp[hk]
 refine⟨fun k k1 k2 k3 => ?_,fun e=>up 5 (h2 (by rw[←e16];exact e)),by rw[e16];exact h3,by rw[e15,e16,y15];exact h4,by rw[e16,y16];exact h5⟩
 by_cases e:k+1=i
 ·exact up k (hd k k1 k2 e)
 ·refine up k (h1 k k1 k2 ?_)
  unfold bO at k3
  rw[if_neg e] at k3
  exact k3
theorem Lg {S:MW} {B b:Nat} {w W W' : World} {P:PS} {L:Nat→Bool} {y:Nat→Value} {a:Option Addr} {e:Nat} (hb:Below W.heap.size W W') (h14:L 14=true) (h:xV S B b w P L y W) (hr:lX W' a e 1 (lg P)):xV S B b w P (bO L 15) (cK y 15 (.slice a 1 e)) W':=by
 obtain⟨h1,h2,h3,h4,h5⟩:=eU _ _ _ _ hb h
 have up:∀k,L k=true→bO L 15 k=true:=fun k hk=>by unfold bO;split<;>simp[hk]
 refine⟨fun k k1 k2 k3 => ?_,fun e=>h2 e,h3,fun _ _=>⟨a,e,rfl,hr⟩,h5⟩
 by_cases e:k+1=15
 ·obtain rfl:k=14:=by omega
  exact up 14 h14
 ·refine up k (h1 k k1 k2 ?_)
  unfold bO at k3
  rw[if_neg e] at k3
  exact k3
theorem KL {S:MW} {B b:Nat} {w W W' : World} {P:PS} {L:Nat→Bool} {y:Nat→Value} {v:Value} (h15:L 15=true) (h5' : L 5=true) (h16:L 16=false) (h:xV S B b w P L y W) (hg:W.grownBy W' (Value.slice S.H.ap S.H.sp.length S.H.cp).ownBlock)
  (ho:Own W' B 55 10 v (S.H.sp.length+1) (S.H.sp.flatMap lg++lg P)) (hs:jV W (.slice S.H.ap S.H.sp.length S.H.cp) v):xV S B b w P (bO L 16) (cK y 16 v) W':=by
 obtain⟨h1,h2,h3,h4,h5⟩:=h
 have up:∀k,L k=true→bO L 16 k=true:=fun k hk=>by unfold bO;split<;>simp[hk]
 refine⟨fun k k1 k2 k3 => ?_,fun _=>h5',fun e=>(by cases e),fun _ e=>(by cases e),fun _=>⟨W,(h3 h16).1,(h3 h16).2,hg,ho,hs⟩⟩
 by_cases e:k+1=16
 ·obtain rfl:k=15:=by omega
  exact up 15 h15
 ·refine up k (h1 k k1 k2 ?_)
  unfold bO at k3
  rw[if_neg e] at k3
  exact k3
theorem vH {S:MW} {B b:Nat} {w W:World} {P:PS} {L:Nat→Bool} {y:Nat→Value} (h:xV S B b w P L y W) {i:Nat} (hi:L i=false) (hk:i=5∨(10≤i∧i≤16)):dm W B b S∧MS w b S W S:=by
 refine h.2.2.1 ?_
 cases e:L 16 with
 | false=>rfl
 | true=>
  exfalso
  rcases hk with rfl|⟨k1,k2⟩
  ·rw[h.2.1 e] at hi;cases hi
  ·have:∀d,d≤6→L (16-d)=true:=by
    intro d
    induction d with
    | zero=>intro _;exact e
    | succ d ih=>intro hd;exact h.1 (16-(d+1)) (by omega) (by omega) (by rw[show 16-(d+1)+1=16-d by omega];exact ih (by omega))
   have h9:=this (16-i) (by omega)
   rw[show 16-(16-i)=i by omega,hi] at h9
   cases h9
def Ni (S:MW) (B b:Nat) (w:World) (r:Ending) (w' : World):Prop:=∃S',r = .returned (.tuple #[])∧dm w' B b S'∧MS w b S w' S'∧More S S'
theorem KD (t:List En) (k:Nat) (hk:k<64):(tL t).toArray.extract (k*3) (k*3+3)=fI (t.getD k zEn):=by
 apply Array.ext_getElem?
 intro j
 rw[Array.getElem?_extract]
 have hs:(tL t).toArray.size=192:=by simp[qV]
 by_cases hj:j<3
 ·rw[if_pos (by omega)]
  have:=Ew t k j hk hj
  simpa[ik] using this
 ·rw[if_neg (by omega),Array.getElem?_eq_none (by show 3≤j;omega)]
theorem entry_size3:(Tryz.prog.info? 89).map (·.size)=some 3:=by kernel_rfl
theorem vo (t:List En) (k:Nat) (hk:k<64) (e:En) (he:t.getD k zEn=e) (w:World):(Instr.index 90 (.agg (tL t).toArray) (.int .i64 k)).run Tryz.prog w = .ok (.agg (fI e)) w:=
 oM Tryz.underlying90 Tryz.underlying89 rfl entry_size3 _ k _ hk (by rw[←he];exact KD t k hk) _ w
theorem vK {P:Program} {ρ:Operand→Value} {w:World} {op:Oper} (ty:TypeId) (x y:Operand) (ho:op.op = .store ty x y)
  (b o:Nat) (v:Value) (cells:List Value) (hx:ρ x = .pointer (some ⟨b,o,none⟩)) (hy:ρ y=v) (hc:v.cells.toList=cells) (cur:Array Value) (T:TypeId) (hg:aF w b cur T)
  (hfit:o+cells.length≤cur.size) (hi:(P.info? ty).map (·.size)=some cells.length) (h1:∀u∈cells,u.oneCell' = true):(execOp ρ op).run P w = .ok .skip (w.setCells b o cells):=by
 have hst:=run_storeCells_cells (P:=P) b o cells 0 w
  (fun j hj=>by rw[Nat.add_zero,hg.cell];simp[show o+j<cur.size by omega]) (fun j hj=>hg.free _) h1
 simp only[Nat.add_zero] at hst
 have hsv:(storeVar ty ⟨b,o,none⟩ v).run P w = .ok () (w.setCells b o cells):=by
  cases hq:P.info? ty with
  | none=>simp[hq] at hi
  | some i=>
   have hs:i.size=cells.length:=by simpa[hq] using hi
   have hv:v.cells.size=cells.length:=by rw[←hc];simp
   simp[storeVar,Go.sizeOf,typeInfo,hq,hs,hv,hc,hst]
 unfold execOp
 simp only[ho,hx,hy,Instr.storeAt,Instr.sureAddr,Sem.run_bind,Sem.run_pure,Result.andThen_ok,hsv]
theorem pX {P:Program} {ops:Array Oper} {ρ:Operand→Value} {o:Oper} {w w' : World} {l:List iO} {i:Nat} {J:(Nat→Bool)→(Nat→Value)→World→Prop} {L:Nat→Bool} {y:Nat→Value} (hw:Region.wanted o (ed ρ ops)=true) (hrun:(execOp ρ o).run P w = .ok .skip w')
  (hJ:J (bO L i) (cK y i undef) w') (hR:rl l i undef w') :
  if Region.wanted o (ed ρ ops)=true then cz P o ρ w (fun v w'=>J (bO L i) (cK y i v) w'∧rl l i v w') else J (bO L i) (cK y i undef) w∧rl l i undef w:=by
 rw[if_pos hw]
 unfold cz
 rw[hrun]
 exact⟨hJ,hR⟩
def Cx (S0 S S' : MW) (B b:Nat) (w:World) (gx gf:Nat) (e:En) (F:Array Value):(Nat→Bool)→(Nat→Value)→World→Prop:=fun L _ W=>
 (aF W gx (fI e) 89∧aF W gf F 110)∧(L 14=false→dm W B b S∧MS w b S0 W S)∧(L 14=true→dm W B b S'∧MS w b S0 W S')
theorem aM {S0 S S' : MW} {B b:Nat} {w:World} {gx gf:Nat} {e:En} {F:Array Value}:∀L y W W',Below W.heap.size W W'→Cx S0 S S' B b w gx gf e F L y W→Cx S0 S S' B b w gx gf e F L y W':=
 fun _ _ _ _ hb ⟨h1,h2,h3⟩=>⟨⟨h1.1.ext hb,h1.2.ext hb⟩,fun e=>⟨(h2 e).1.below hb,(h2 e).2.below hb⟩,fun e=>⟨(h3 e).1.below hb,(h3 e).2.below hb⟩⟩
theorem mo {S0 S S' : MW} {B b:Nat} {w W:World} {gx gf:Nat} {e:En} {F:Array Value} {L:Nat→Bool} {y:Nat→Value} (h:Cx S0 S S' B b w gx gf e F L y W) (hk:(eP S')[12]?=(eP S)[12]?):W.cell? ⟨b,12,none⟩=(eP S)[12]?:=by
 cases hL:L 14 with
 | false=>exact (h.2.1 hL).1.blk.cell 12
 | true=>rw[←hk];exact (h.2.2 hL).1.blk.cell 12
theorem mF {m:Ma} {T:List (List En)} (ok:sV m T) (hl:m.sp.length=2) {n:Nat} {x:En} (hn:n<64) (hx:dC x=0) (q j:Nat) (hj:j≠n):dG (setL (setL T 0 n x) 1 n x) q j=dG T q j:=by
 rw[oI (ok.set (p:=0) (by omega) hx) (by omega) hn,if_neg (fun h=>hj h.2),oI ok (by omega) hn,if_neg (fun h=>hj h.2)]
theorem AC {ρ:Operand→Value} {o:Oper} {w:World} {x y:Operand} {b off n c i:Nat} {k:IntKind} (ho:o.op = .indexAddr 30 x y) (hx:ρ x = .slice (some ⟨b,off,none⟩) n c) (hy:ρ y = .int k (i:Int)) (hi:i<n) :
  (execOp ρ o).run Tryz.prog w = .ok (.value (.pointer (some ⟨b,off+i,none⟩))) w:=by
 have:=aU (P:=Tryz.prog) (w:=w) ho hx hy hi Tryz.underlying30 (show (Tryz.prog.info? 3).map (·.size)=some 1 by kernel_rfl)
 rw[this,Nat.mul_one]
theorem dm.locE {w w' : World} {B b:Nat} {S:MW} (h:dm w B b S) {g:Nat} {cs:Array Value} (hk:aF w g cs 89) (hn:¬iY b S g) (hsp:∀p∈S.H.sp,∀k v,k<8→(iP p.ts)[k]?=some v→v.ownBlock≠some g) (hgB:B≤g) (hg:w.grownBy w' (some g)):dm w' B b S:=by
 have hne:∀ {a:Option Addr},oB a∈dZ S→∀n c g',(Value.slice a n c).ownBlock=some g'→some g≠some g':=fun hm n c g' he e=>by
  cases e
  rw[iK] at he
  exact hn (.inr (by rw[←he];exact hm))
 exact⟨h.blk.grown hg (fun e=>hn (.inl (Option.some.inj e))),h.ge,⟨h.ma.fr.grown hg (hne (by simp[dZ]) _ _),h.ma.sl.grown hg (hne (by simp[dZ]) _ _),⟨h.ma.sw.b.grown hg (hne (by simp[dZ]) _ _),h.ma.sw.q.grown hg (fun g' he=>by rw[h.n3] at he;cases he)⟩,⟨h.ma.dk.b.grown hg (hne (by simp[dZ]) _ _),h.ma.dk.q.grown hg (hne (by simp[dZ]) _ _)⟩,
  ⟨h.ma.st.own.grown hg (hne (by simp[dZ]) _ _),fun i p hp=>ak (h.ma.st.each i p hp) hk (by decide) hg,h.ma.st.apart⟩,h.ma.ca.grown hg (hne (by simp[dZ]) _ _),h.ma.sp.grown hg (hne (by simp[dZ]) _ _),fun p hp=>⟨ak (h.ma.ps p hp).1 hk (by decide) hg,⟨(h.ma.ps p hp).2.sz,fun k hk8=>by
   obtain⟨v,h1,h2⟩:=(h.ma.ps p hp).2.own k hk8
   exact⟨v,h1,h2.grown hg (fun g' he e=>by cases e;exact hsp p hp k v hk8 h1 he)⟩,(h.ma.ps p hp).2.apart⟩⟩,h.ma.c64⟩,
  h.tt.grown hg (hne (by simp[dZ]) _ _),h.rd.keep h.ra h.bs hg hgB,h.ra,h.n1,h.n2,h.n3⟩
theorem dm.newE {w:World} {B b:Nat} {S:MW} (h:dm w B b S) {x:Nat} (hx:w.heap.size≤x):∀p∈S.H.sp,∀k v,k<8→(iP p.ts)[k]?=some v→v.ownBlock≠some x:=fun p hp k v hk hv he=>by
 obtain⟨v',h1,h2⟩:=(h.ma.ps p hp).2.own k hk
 rw[hv] at h1
 cases h1
 have:=zx h2 x he
 omega
theorem Ga (S:MW) (B b:Nat) (w:World) (h:dm w B b S) (hd:Bd S.H.ma S.T) (hf:EI S) (hl:S.H.sp.length=1) :
  Calls Tryz.prog 34 #[.pointer (some ⟨b,0,none⟩)] w (Ni S B b w):=by
 obtain⟨p0,hsp⟩:=List.length_eq_one_iff.1 hl
 have hd':=Lib.hid hd
 have hf':=Lib.hid hf
 have hBs:=Lib.hid h.bs
 have hsp':=Lib.hid hsp
 obtain⟨gp,op,cap,cur,hv,hgB,hgk,hgs,hgc,hgw⟩:=h.ma.sp.put ky (by decide) 0 (by rw[hl];decide)
 have hap:S.H.ap=some ⟨gp,op,none⟩:=(Value.slice.inj hv).1
 have hcell:∀W,dm W B b S→W.cell? ⟨gp,op+1,none⟩=some (.slice p0.aa p0.ar.length p0.ac):=fun W hW=>by
  obtain⟨g2,o2,_,_,hv2,_,_,_,hc2,_⟩:=hW.ma.sp.put ky (by decide) 0 (by rw[hl];decide)
  have e9:(some (⟨g2,o2,none⟩:Addr))=some ⟨gp,op,none⟩:=(Value.slice.inj hv2).1.symm.trans hap
  cases e9
  have e0:S.H.sp[0]'(by rw[hl];decide)=p0:=by simp[hsp]
  rw[e0] at hc2
  have:=hc2 1 _ rfl
  simpa using this
 clear hd hf hsp hv hgk hgs hgc hgw
 go_enter Tryz.func34,Tryz.ntmps34
 go_upto_region 0 with (fail)
 refine dN 20 [_,_,_,_,_,.v (.slice (some ⟨gp,op,none⟩) 1 S.H.cp),_,_,_,_,.v (.slice (some ⟨gp,op,none⟩) 1 S.H.cp),_,_,.v (.slice p0.aa p0.ar.length p0.ac),.v (.agg (nA ⟨true,p0.aa,p0.ac,p0.ar,nTs,zTb⟩)),.r 15 ((aQ fun _=>True)),.r 16 ((aQ fun _=>True)),_,_,_] (xV S B b w ⟨true,p0.aa,p0.ac,p0.ar,nTs,zTb⟩) eU (fun _=>⟨fun k _ _ e=>(by cases e),fun e=>(by cases e),fun _=>⟨h,MS.refl _ _ _⟩,fun e=>(by cases e),fun e=>(by cases e)⟩) (Qk eU rfl (Qk eU rfl (Qk eU rfl (Qf eU b 1 rfl rfl (Qf eU b 11 rfl rfl (ag ?_ (Qk eU rfl (Qk eU rfl (Qf eU b 1 rfl rfl (Qf eU b 11 rfl rfl (ag ?_ (Qr eU (.pointer (some ⟨gp,op,none⟩)) (fun ρ y W hKn=>(aU (i:=0) rfl (aA rfl hKn) (aA rfl hKn) (by decide) Tryz.underlying39 space_size)) rfl rfl (Qf eU gp (op+1) rfl rfl (ag ?_ (ag ?_ (ag ?_ (ag ?_ (Qk eU rfl (Qf eU b 1 rfl rfl (Qf eU b 11 rfl rfl (aB) (fun _ _ _ _ hLd h=>fH (by decide) (by intro k h1 h2 e;first | omega | (obtain rfl:=Nat.succ.inj e;exact hLd _ rfl)) h)) (fun _ _ _ _ hLd h=>fH (by decide) (by intro k h1 h2 e;first | omega | (obtain rfl:=Nat.succ.inj e;exact hLd _ rfl)) h)) (fun _ _ _ _ hLd h=>fH (by decide) (by intro k h1 h2 e;first | omega | (obtain rfl:=Nat.succ.inj e;exact hLd _ rfl)) h)))))) (fun _ _ _ _ hLd h=>fH (by decide) (by intro k h1 h2 e;first | omega | (obtain rfl:=Nat.succ.inj e;exact hLd _ rfl)) h)) (fun _ _ _ _ hLd h=>fH (by decide) (by intro k h1 h2 e;first | omega | (obtain rfl:=Nat.succ.inj e;exact hLd _ rfl)) h))) (fun _ _ _ _ hLd h=>fH (by decide) (by intro k h1 h2 e;first | omega | (obtain rfl:=Nat.succ.inj e;exact hLd _ rfl)) h)) (fun _ _ _ _ hLd h=>fH (by decide) (by intro k h1 h2 e;first | omega | (obtain rfl:=Nat.succ.inj e;exact hLd _ rfl)) h)) (fun _ _ _ _ hLd h=>fH (by decide) (by intro k h1 h2 e;first | omega | (obtain rfl:=Nat.succ.inj e;exact hLd _ rfl)) h)) (fun _ _ _ _ hLd h=>fH (by decide) (by intro k h1 h2 e;first | omega | (obtain rfl:=Nat.succ.inj e;exact hLd _ rfl)) h))) (fun _ _ _ _ hLd h=>fH (by decide) (by intro k h1 h2 e;first | omega | (obtain rfl:=Nat.succ.inj e;exact hLd _ rfl)) h)) (fun _ _ _ _ hLd h=>fH (by decide) (by intro k h1 h2 e;first | omega | (obtain rfl:=Nat.succ.inj e;exact hLd _ rfl)) h)) (fun _ _ _ _ hLd h=>fH (by decide) (by intro k h1 h2 e;first | omega | (obtain rfl:=Nat.succ.inj e;exact hLd _ rfl)) h)) (fun _ _ _ _ hLd h=>fH (by decide) (by intro k h1 h2 e;first | omega | (obtain rfl:=Nat.succ.inj e;exact hLd _ rfl)) h)) (fun _ _ _ _ hLd h=>fH (by decide) (by intro k h1 h2 e;first | omega | (obtain rfl:=Nat.succ.inj e;exact hLd _ rfl)) h)) (fun _=>rfl) rfl ?_
 ·intro ρ y W L hw hn hLi hLd hb hd
  refine bY eU (fun _ _ h=>fH (by decide) (by intro k h1 h2 e;first | omega | (obtain rfl:=Nat.succ.inj e;exact hLd _ rfl)) h) hb ?_
  have E9:=hw 9 4 rfl
  have h4:y 4=_:=hd 4 rfl
  have hm:=(vH hb hLi (by decide)).1
  refine aj (.slice (some ⟨gp,op,none⟩) 1 S.H.cp) (ah rfl) (by simp[execOp,go_sem,E9,h4,hm.blk.cell,eP,hap,hl]) rfl
 ·intro ρ y W L hw hn hLi hLd hb hd
  refine bY eU (fun _ _ h=>fH (by decide) (by intro k h1 h2 e;first | omega | (obtain rfl:=Nat.succ.inj e;exact hLd _ rfl)) h) hb ?_
  have E14:=hw 14 9 rfl
  have h9:y 9=_:=hd 9 rfl
  have hm:=(vH hb hLi (by decide)).1
  refine aj (.slice (some ⟨gp,op,none⟩) 1 S.H.cp) (ah rfl) (by simp[execOp,go_sem,E14,h9,hm.blk.cell,eP,hap,hl]) rfl
 ·intro ρ y W L hw hn hLi hLd hb hd
  refine bY eU (fun _ _ h=>fH (by decide) (by intro k h1 h2 e;first | omega | (obtain rfl:=Nat.succ.inj e;exact hLd _ rfl)) h) hb ?_
  have E17:=hw 17 12 rfl
  have h12:y 12=_:=hd 12 rfl
  have hm:=(vH hb hLi (by decide)).1
  refine aj (.slice p0.aa p0.ar.length p0.ac) (ah rfl) (by simp[execOp,go_sem,E17,h12,hcell W hm]) rfl
 ·intro ρ y W L hw hn hLi hLd hb hd
  refine bY eU (fun _ _ h=>fH (by decide) (by intro k h1 h2 e;first | omega | (obtain rfl:=Nat.succ.inj e;exact hLd _ rfl)) h) hb ?_
  have E18:=hw 18 13 rfl
  have h13:y 13=_:=hd 13 rfl
  have EC:∀v,ρ (.const v)=v:=fun v=>hn (.const v) trivial
  refine aj (.agg (nA ⟨true,p0.aa,p0.ac,p0.ar,nTs,zTb⟩)) (ah rfl) (by simp[execOp,go_sem,E18,h13,EC,nA,nTs]) rfl
 ·intro ρ y W L hw hn hLi hLd hb hd;have E19:=hw 19 14 rfl;have h14:y 14=_:=hd 14 rfl
  refine bL (.slice (some ⟨W.heap.size,0,none⟩) 1 1) (ah rfl) ?_ (Lg (W':=W.alloc (.cells (nA ⟨true,p0.aa,p0.ac,p0.ar,nTs,zTb⟩) 55)) ((Below.refl _ _).alloc (Nat.le_refl _) _) (hLd 14 rfl) hb ⟨Nat.le_refl _,by unfold maxLen;omega,fun e=>(by cases e),cZ.new _ _ _⟩) trivial
  simp[execOp,go_sem,E19.trans h14,nA]
 ·intro ρ y W L hw hn hLi hLd hb hd;have E10:=hw 10 5 rfl;have h5:y 5=_:=hd 5 rfl;have E20:=hw 20 15 rfl;have h15:=hd 15 rfl
  have hm:=(vH hb hLi (by decide)).1
  obtain⟨a,e,hx1,hx2⟩:=hb.2.2.2.1 (hLd 15 rfl) hLi
  have hpv:Own W B 55 10 (.slice S.H.ap S.H.sp.length S.H.cp) S.H.sp.length (S.H.sp.flatMap lg):=hm.ma.sp
  refine dM (ah rfl) (gL _ _ _ rfl B 55 _ 10 224 Tryz.underlying39 space_info rfl (by decide) (.slice S.H.ap S.H.sp.length S.H.cp) S.H.sp.length _ (by rw[hl,hap];exact E10.trans h5) hpv a 1 e _ (E20.trans hx1) hx2.nl hx2.le rfl hx2.rd (bv (by simp[nA,nTs,Value.oneCell'])) (by unfold maxLen;omega) (by omega) hm.bs) (fun v W1 h=>KL (hLd 15 rfl) (hLd 5 rfl) hLi hb h.2.1 h.1 h.2.2) (fun _ _ _=>trivial)
 intro y W1 hbW1 hRW1
 have hy15:((aQ fun _=>True)).r (y 15) W1:=hRW1 15 (by decide)
 have hy16:((aQ fun _=>True)).r (y 16) W1:=hRW1 16 (by decide)
 clear hRW1
 obtain⟨w1,hm1,hs1,hg2,own2,hsn2⟩:=hbW1.2.2.2.2 rfl
 clear hbW1 h
 have hownP1:Own w1 B 55 10 (.slice S.H.ap S.H.sp.length S.H.cp) S.H.sp.length (S.H.sp.flatMap lg):=hm1.ma.sp
 have hp0m:p0∈S.H.sp:=by rw[hsp'.out];exact List.mem_singleton.2 rfl
 have hbk2:=nk hownP1 hg2 hm1.blk (by decide)
 have hps2:∀p∈S.H.sp++[(⟨true,p0.aa,p0.ac,p0.ar,nTs,zTb⟩:PS)],Own W1 B 99 7 (.slice p.aa p.ar.length p.ac) p.ar.length (p.ar.flatMap iE)∧lc W1 B (iP p.ts) p.tb:=fun p hp=>by
  rcases List.mem_append.1 hp with hp|hp
  ·exact⟨eQ hownP1 hg2 (hm1.ma.ps p hp).1 (by decide),rQ hownP1 hg2 (hm1.ma.ps p hp).2⟩
  ·rw[List.mem_singleton.1 hp]
   exact⟨eQ hownP1 hg2 (hm1.ma.ps p0 hp0m).1 (by decide),oU _ _⟩
 obtain⟨a2,c2,hv2,_⟩:=own2.rd
 rw[hv2] at own2 hsn2 ⊢
 clear hv2
 have hlen2:(S.H.sp++[(⟨true,p0.aa,p0.ac,p0.ar,nTs,zTb⟩:PS)]).length=S.H.sp.length+1:=by simp
 have own2' : Own W1 B 55 10 (.slice a2 (S.H.sp++[(⟨true,p0.aa,p0.ac,p0.ar,nTs,zTb⟩:PS)]).length c2) (S.H.sp++[(⟨true,p0.aa,p0.ac,p0.ar,nTs,zTb⟩:PS)]).length ((S.H.sp++[(⟨true,p0.aa,p0.ac,p0.ar,nTs,zTb⟩:PS)]).flatMap lg):=by
  rw[hlen2,List.flatMap_append]
  simpa using own2
 clear own2
 go_wp2_with (refine aC rfl _ _ _ rfl b 11 _ [.slice a2 (S.H.sp.length+1) c2] rfl rfl rfl _ _ hbk2 (by show 11+1≤13;omega) (by kernel_rfl) (fun u hu=>by cases List.mem_singleton.1 hu;rfl) ?_)
 intro w3 hb3 hg3
 have h3:dm w3 B b { S with H:={ S.H with ap:=a2,cp:=c2,sp:=S.H.sp++[(⟨true,p0.aa,p0.ac,p0.ar,nTs,zTb⟩:PS)] } }:=hm1.appP hg2 own2' hps2 (by rw[hlen2,hl];exact hb3) hg3
 have s3:MS w b S w3 { S with H:={ S.H with ap:=a2,cp:=c2,sp:=S.H.sp++[(⟨true,p0.aa,p0.ac,p0.ar,nTs,zTb⟩:PS)] } }:=hs1.app hm1 hownP1 (by simp[dZ]) hg2 hg3 hsn2 (fun x hx=>by
  rcases hx with hx|hx
  ·exact .inl (.inl hx)
  ·simp only[dZ,List.mem_cons,List.not_mem_nil,or_false] at hx
   rcases hx with hx|hx|hx|hx|hx|hx|hx|hx|hx<;>first|exact .inr hx.symm|exact .inl (.inr (by simp[dZ,hx])))
 clear hm1 hs1 hownP1 hbk2 hps2 own2' hb3 hg3 hsn2 hg2 hcell hap
 -- process 0's areas
 obtain⟨g3,o3,_,_,hv3,_,_,_,hc3,_⟩:=h3.ma.sp.put ky (by decide) 0 (by simp)
 have ha3:a2=some ⟨g3,o3,none⟩:=(Value.slice.inj hv3).1
 have c31:w3.cell? ⟨g3,o3+1,none⟩=some (.slice p0.aa p0.ar.length p0.ac):=by
  have e0:(S.H.sp++[(⟨true,p0.aa,p0.ac,p0.ar,nTs,zTb⟩:PS)])[0]'(by simp)=p0:=by simp[hsp'.out]
  rw[e0] at hc3
  have:=hc3 1 _ rfl
  simpa using this
 have hc:=h3.blk.cell
 unfold eP at hc
 dsimp only at hc
 rw[ha3,hlen2] at hc
 have hA0:=(h3.ma.ps p0 (List.mem_append_left _ hp0m)).1
 have hwA:Hid ((aZ p0.ar).1=0):=Lib.hid (hd'.out.rt.pt.ar ⟨p0.lv,p0.ar,dO (dE S.T 0)⟩ (by
  show _∈(List.range (S.H.sp.map PS.sp).length).map fun p=>({ bP S.H.ma p with tb:=dO (dE S.T p) }:Sp)
  rw[List.mem_map]
  refine⟨0,by rw[List.length_map,hl];decide,?_⟩
  have e1:bP S.H.ma 0=p0.sp:=by show (S.H.sp.map PS.sp).getD 0 zSp=_;rw[hsp'.out];rfl
  rw[e1];rfl))
 have hAl:p0.ar.length≤16:=(fe.1 hwA.out).1
 have hsr:=Lib.hid (iX (fe.1 hwA.out).2)
 go_wp2_with fail
 refine (kG p0.ar p0.aa p0.ac _ (mP hA0).rd (by omega) (fun x hx=>(srtF_ok hsr.out x hx).1)).mono ?_
 rintro r w4 ⟨rfl,hb4⟩
 have h4:=h3.below hb4
 have s4:=s3.below hb4
 have hs384:=Lib.hid (fP (bF p0.ar))
 clear h3 s3 hc c31 ha3 hb4 hA0
 go_wp2_with (refine aH rfl _ _ _ rfl (fC (bF p0.ar)) rfl rfl (by rw[hs384.out];rfl) (by rw[hs384.out];exact ones_size) (rW _) ?_)
 intro w5 hb5 fx5
 have h5:=h4.below hb5
 have s5:=s4.below hb5
 have hnf:=Lib.hid (h4.new (Nat.le_refl _))
 have hfw:=Lib.hid s4.size
 clear h4 s4 hb5
 generalize w4.heap.size=gf at *
 have hT1:S.T.length=1:=by
  have h9:=hd'.out.ok.len
  have h8:S.H.ma.sp.length=S.H.sp.length:=List.length_map _
  omega
 have hT1':=Lib.hid hT1
 have hl':=Lib.hid hl
 clear hT1 hl
 have hc:=h5.blk.cell
 unfold eP at hc
 dsimp only at hc
 have hownT:Own w5 B 90 192 (.slice S.ab S.T.length S.cb) S.T.length (S.T.flatMap tL):=h5.tt
 go_wp2_with (at_builtin;go_must (refine uP rfl _ _ rfl (by kernel_rfl) B (.slice S.ab S.T.length S.cb) S.T.length (S.T.flatMap tL) rfl hownT rfl (by have:=hT1'.out;omega) h5.bs ?_))
 intro v6 w6 own6 hg6 hsn6
 have hal5:=(Below.refl w5.heap.size w5).alloc (Nat.le_refl _) (.cells (tL (List.replicate 64 zEn)).toArray 90)
 have h5a:=h5.below hal5
 have s5a:=s5.below hal5
 have hownTa:=hownT.below hal5
 have hfa:=fx5.ext hal5
 have hkeep:∀ {x:Nat} {cs:Array Value} {T:TypeId},aF (w5.alloc (.cells (tL (List.replicate 64 zEn)).toArray 90)) x cs T→T≠90→aF w6 x cs T:=fun hk0 hT=>by
  rcases lW hownTa hg6 with hb0|⟨g,cs,hk,_,hg'⟩
  ·exact hk0.ext hb0
  ·exact bD hk0 hk (fun e=>hT e.symm) hg'
 have hbk6:=hkeep h5a.blk (by decide)
 have fx6:=hkeep hfa (by decide)
 have hTf:∀x,v6.ownBlock=some x→x≠gf:=fun x hx e=>by
  rcases hsn6 with e1|e1
  ·rw[e1] at hx
   obtain⟨cs,hk⟩:=ic hownTa x hx
   rw[e] at hk
   exact lQ hk hfa (by decide) rfl
  ·have h9:=e1 x hx
   rw[e] at h9
   exact Nat.lt_irrefl _ (Nat.lt_of_lt_of_le hfa.lt h9)
 obtain⟨a4,c4,rfl,_⟩:=own6.rd
 have hkfT:some gf=oB a4→False:=fun e=>hTf gf (by rw[iK];exact e.symm) rfl
 have hlen4:(S.T++[List.replicate 64 zEn]).length=S.T.length+1:=by simp
 have own6' : Own w6 B 90 192 (.slice a4 (S.T++[List.replicate 64 zEn]).length c4) (S.T++[List.replicate 64 zEn]).length ((S.T++[List.replicate 64 zEn]).flatMap tL):=by
  rw[hlen4,List.flatMap_append]
  simpa using own6
 clear hc h5 s5 hownT own6 hal5 hkeep hfa fx5
 go_wp2_with (refine aC rfl _ _ _ rfl b 12 _ [.slice a4 (S.T.length+1) c4] rfl rfl rfl _ _ hbk6 (by show 12+1≤13;omega) (by kernel_rfl) (fun u hu=>by cases List.mem_singleton.1 hu;rfl) ?_)
 intro w7 hb7 hg7
 have h7:dm w7 B b { S with H:={ S.H with ap:=some ⟨g3,o3,none⟩,cp:=c2,sp:=S.H.sp++[(⟨true,p0.aa,p0.ac,p0.ar,nTs,zTb⟩:PS)] },ab:=a4,cb:=c4,T:=S.T++[List.replicate 64 zEn] }:=h5a.appT hg6 own6' (by rw[hlen4];exact hb7) hg7
 have s7:MS w b S w7 { S with H:={ S.H with ap:=some ⟨g3,o3,none⟩,cp:=c2,sp:=S.H.sp++[(⟨true,p0.aa,p0.ac,p0.ar,nTs,zTb⟩:PS)] },ab:=a4,cb:=c4,T:=S.T++[List.replicate 64 zEn] }:=s5a.app h5a hownTa (by simp[dZ]) hg6 hg7 hsn6 (fun x hx=>by
  rcases hx with hx|hx
  ·exact .inl (.inl hx)
  ·simp only[dZ,List.mem_cons,List.not_mem_nil,or_false] at hx
   rcases hx with hx|hx|hx|hx|hx|hx|hx|hx|hx<;>first|exact .inr hx.symm|exact .inl (.inr (by simp[dZ,hx])))
 have hnb:gf≠b:=fun e=>hnf.out (.inl e)
 have hkf7:Hid (¬iY b ({ S with H:={ S.H with ap:=some ⟨g3,o3,none⟩,cp:=c2,sp:=S.H.sp++[(⟨true,p0.aa,p0.ac,p0.ar,nTs,zTb⟩:PS)] },ab:=a4,cb:=c4,T:=S.T++[List.replicate 64 zEn] }:MW) gf):=Lib.hid fun hk=>by
  rcases hk with hk|hk
  ·exact hnf.out (.inl hk)
  ·simp only[dZ,List.mem_cons,List.not_mem_nil,or_false] at hk
   have hlt:gf<w6.heap.size:=fx6.lt
   rcases hk with hk|hk|hk|hk|hk|hk|hk|hk|hk
   all_goals first
    | exact hkfT hk
    | exact hnf.out (.inr (by simp[dZ,hk]))
 have fx7:=fx6.grown hg7 (fun e=>hnb (Option.some.inj e).symm)
 clear h5a s5a hownTa hbk6 own6' hb7 hg7 hsn6 hg6 fx6
 have hma5:({ S with H:={ S.H with ap:=some ⟨g3,o3,none⟩,cp:=c2,sp:=S.H.sp++[(⟨true,p0.aa,p0.ac,p0.ar,nTs,zTb⟩:PS)] },ab:=a4,cb:=c4,T:=S.T++[List.replicate 64 zEn] }:MW).H.ma = { S.H.ma with sp:=S.H.ma.sp++[⟨true,p0.ar,zTb⟩] }:=by simp[MH.ma,PS.sp]
 have hmore:Hid (More S { S with H:={ S.H with ap:=some ⟨g3,o3,none⟩,cp:=c2,sp:=S.H.sp++[(⟨true,p0.aa,p0.ac,p0.ar,nTs,zTb⟩:PS)] },ab:=a4,cb:=c4,T:=S.T++[List.replicate 64 zEn] }):=Lib.hid ⟨by
  rw[hma5]
  exact hd'.out.more (s:=⟨true,p0.ar,zTb⟩) (by show (S.H.sp.map PS.sp).length<4;rw[List.length_map,hl'.out];decide) rfl hwA.out,fun p hp n g hg=>by
  rcases List.mem_append.1 hp with hp|hp
  ·exact hf'.out p hp n g hg
  ·rw[List.mem_singleton.1 hp] at hg
   exact hf'.out p0 hp0m n g hg,rfl,rfl,rfl,by simp,rfl⟩
 have hspL:Hid (({ S with H:={ S.H with ap:=some ⟨g3,o3,none⟩,cp:=c2,sp:=S.H.sp++[(⟨true,p0.aa,p0.ac,p0.ar,nTs,zTb⟩:PS)] },ab:=a4,cb:=c4,T:=S.T++[List.replicate 64 zEn] }:MW).H.ma.sp.length=2):=Lib.hid (by
  rw[hma5,List.length_append]
  show (S.H.sp.map PS.sp).length+1=2
  rw[List.length_map,hl'.out])
 have hsp0:Hid ((bP ({ S with H:={ S.H with ap:=some ⟨g3,o3,none⟩,cp:=c2,sp:=S.H.sp++[(⟨true,p0.aa,p0.ac,p0.ar,nTs,zTb⟩:PS)] },ab:=a4,cb:=c4,T:=S.T++[List.replicate 64 zEn] }:MW).H.ma 0).ar=p0.ar∧(bP ({ S with H:={ S.H with ap:=some ⟨g3,o3,none⟩,cp:=c2,sp:=S.H.sp++[(⟨true,p0.aa,p0.ac,p0.ar,nTs,zTb⟩:PS)] },ab:=a4,cb:=c4,T:=S.T++[List.replicate 64 zEn] }:MW).H.ma 1).ar=p0.ar):=Lib.hid (by
  rw[hma5]
  have e:S.H.ma.sp=[p0.sp]:=by show S.H.sp.map PS.sp=_;rw[hsp'.out];rfl
  unfold bP
  simp only[e]
  exact⟨rfl,rfl⟩)
 obtain⟨t0,ht0⟩:=List.length_eq_one_iff.1 hT1'.out
 have hent:Hid ((∀j:Nat,dG ({ S with H:={ S.H with ap:=some ⟨g3,o3,none⟩,cp:=c2,sp:=S.H.sp++[(⟨true,p0.aa,p0.ac,p0.ar,nTs,zTb⟩:PS)] },ab:=a4,cb:=c4,T:=S.T++[List.replicate 64 zEn] }:MW).T 0 j=t0.getD j zEn)∧∀j:Nat,(dG ({ S with H:={ S.H with ap:=some ⟨g3,o3,none⟩,cp:=c2,sp:=S.H.sp++[(⟨true,p0.aa,p0.ac,p0.ar,nTs,zTb⟩:PS)] },ab:=a4,cb:=c4,T:=S.T++[List.replicate 64 zEn] }:MW).T 1 j).k=0):=Lib.hid (by
  unfold dG dE
  simp only[ht0]
  refine⟨fun j=>rfl,fun j => ?_⟩
  show ((List.replicate 64 zEn).getD j zEn).k=0
  rw[List.getD_eq_getElem?_getD,List.getElem?_replicate]
  split<;>rfl)
 obtain⟨gT,oT,_,_,hvT,_,_,_,hcT,_⟩:=h7.tt.put qV (by decide) 0 (by simp)
 have haT:a4=some ⟨gT,oT,none⟩:=(Value.slice.inj hvT).1
 have hrdT:cZ w7 (some ⟨gT,oT,none⟩) (tL t0):=fun j u hj=>⟨gT,oT,rfl,by
  have e0:(S.T++[List.replicate 64 zEn])[0]'(by simp)=t0:=by simp[ht0]
  rw[e0] at hcT
  simpa using hcT j u hj⟩
 have hTlen:(S.T++[List.replicate 64 zEn]).length=2:=by rw[hlen4,hT1'.out]
 have hc:=h7.blk.cell
 unfold eP at hc
 dsimp only at hc
 rw[haT,hTlen] at hc
 have ht0':=Lib.hid ht0
 clear hma5 ht0 hvT hcT
 have hsz3:(Tryz.prog.info? 90).map (·.size)=some (tL t0).length:=by rw[qV];exact ents_size
 have hsz3':=Lib.hid hsz3
 clear hsz3
 go_upto_region 3 with (fail)
 clear hnb hlen4 hlen2 hBs hnf hfw hs384 hwA
 go_upto_region 4 with (refine ay _ _ rfl gT oT rfl rfl (tL t0) hrdT _ Tryz.underlying90 rfl hsz3'.out ?_)
 have h7:dm w7 B b { S with H:={ S.H with ap:=some ⟨g3,o3,none⟩,cp:=c2,sp:=S.H.sp++[(⟨true,p0.aa,p0.ac,p0.ar,nTs,zTb⟩:PS)] },ab:=a4,cb:=c4,T:=S.T++[List.replicate 64 zEn] }:=h7
 have hlen7:Hid (({ S with H:={ S.H with ap:=some ⟨g3,o3,none⟩,cp:=c2,sp:=S.H.sp++[(⟨true,p0.aa,p0.ac,p0.ar,nTs,zTb⟩:PS)] },ab:=a4,cb:=c4,T:=S.T++[List.replicate 64 zEn] }:MW).T.length=2):=Lib.hid hTlen
 clear hc hrdT hsz3' hTlen
 have hSp5:Hid (({ S with H:={ S.H with ap:=some ⟨g3,o3,none⟩,cp:=c2,sp:=S.H.sp++[(⟨true,p0.aa,p0.ac,p0.ar,nTs,zTb⟩:PS)] },ab:=a4,cb:=c4,T:=S.T++[List.replicate 64 zEn] }:MW).H.sp=S.H.sp++[(⟨true,p0.aa,p0.ac,p0.ar,nTs,zTb⟩:PS)]):=Lib.hid rfl
 have hT5:Hid (({ S with H:={ S.H with ap:=some ⟨g3,o3,none⟩,cp:=c2,sp:=S.H.sp++[(⟨true,p0.aa,p0.ac,p0.ar,nTs,zTb⟩:PS)] },ab:=a4,cb:=c4,T:=S.T++[List.replicate 64 zEn] }:MW).T=S.T++[List.replicate 64 zEn]):=Lib.hid rfl
 generalize ({ S with H:={ S.H with ap:=some ⟨g3,o3,none⟩,cp:=c2,sp:=S.H.sp++[(⟨true,p0.aa,p0.ac,p0.ar,nTs,zTb⟩:PS)] },ab:=a4,cb:=c4,T:=S.T++[List.replicate 64 zEn] }:MW)=S5 at *
 go_loopw [50] (fun i wr => ∃(n:Nat) (Sn:MW),n≤64∧i = .int .i64 n∧dm wr B b Sn∧MS w b S wr Sn∧aF wr gf (fC (bF p0.ar)) 110∧Hid (¬iY b Sn gf)∧Hid (Ah S5 Sn∧Bd Sn.H.ma Sn.T∧∀j:Nat,n≤j→dG Sn.T 0 j=t0.getD j zEn∧(dG Sn.T 1 j).k=0)) (fun i _=>64-(intOf i).toNat)
 case atStart=>exact⟨0,S5,Nat.zero_le _,rfl,h7,s7,fx7,hkf7,Lib.hid ⟨.refl _,hmore.out.bd,fun j _=>by rw[hT5.out];exact⟨hent.out.1 j,hent.out.2 j⟩⟩⟩
 case round=>
  clear h7 s7 fx7 hkf7
  obtain⟨n,Sn,hn,rfl,hm,hs,fx,hkf,hN⟩:=hrel
  by_cases hn64:n<64
  ·have hni:(n:Int)<64:=by omega
   obtain⟨e,he⟩:∃e,t0.getD n zEn=e:=⟨_,rfl⟩
   have hix:=vo t0 n hn64 e he
   unfold fI at hix
   have he':=Lib.hid he
   clear he
   have hTSn:Sn.T.length=2:=by
    have h9:=hN.out.2.1.ok.len
    rw[h9]
    show (Sn.H.sp.map PS.sp).length=2
    rw[List.length_map,hN.out.1.sp,hmore.out.sp,hl'.out]
   have h64:Hid (∀p,p<2→(dE Sn.T p).length=64):=Lib.hid fun p hp=>hN.out.2.1.ok.l64 (by rw[←hN.out.2.1.ok.len,hTSn];exact hp)
   go_upto_region 6 with (fail)
   refine fo (fun W=>Code.wp _ _ _ _ W) fun W1 hb1 bx1 hs1 => ?_
   have hm1:=hm.below hb1
   have sm1:=hs.below hb1
   have fx1:=fx.ext hb1
   have hkgx:=Lib.hid (hm.new (Nat.le_refl _))
   have hfar:=Lib.hid (hm.newE (Nat.le_refl _))
   have hgxB:B≤wr.heap.size:=hm.bs
   have hgxw:=Lib.hid hs.size
   have hgfx:gf≠wr.heap.size:=fun e9=>by have:=fx.lt;omega
   have hcx:=bx1.cell
   clear hs1 hb1 hm hs fx hix
   generalize wr.heap.size=gx at *
   by_cases hk1:e.k=1
   ·have hK:=hN.out.1
    have hB:=hN.out.2.1
    have hL:Sn.H.ma.sp.length=2:=by rw[←hB.ok.len];exact hTSn
    have he0:dG Sn.T 0 n=e:=by rw[(hN.out.2.2 n (Nat.le_refl _)).1];exact he'.out
    have hE:=qQ hB.ok (p:=0) (n:=n) (by omega) hn64
    rw[he0] at hE
    have hfe:=iH hB.ok (p:=0) (n:=n) (by omega) hn64
    rw[he0] at hfe
    obtain⟨g,hpg,hfit⟩:=hB.rt.en 0 n (by rw[hfe,hk1];decide)
    rw[hfe] at hfit
    have hn0:0≤e.n:=by rcases (bH _).1 hE with h9 | h9 | h9<;>omega
    obtain⟨f,hf0⟩:=Int.eq_ofNat_of_zero_le hn0
    have hfl:f<Sn.H.m.fs.length:=by
     have h9:=hfit.lt hk1
     have e1:((dh Sn.H.ma Sn.T).m.fs.length:Nat)=Sn.H.m.fs.length:=rfl
     omega
    rw[jD (by omega)] at hpg
    have har:(bP Sn.H.ma 1).ar=(bP Sn.H.ma 0).ar∧(bP Sn.H.ma 0).ar=p0.ar:=by
     have e1:Sn.H.ma.sp=[p0.sp,⟨true,p0.ar,zTb⟩]:=by
      show Sn.H.sp.map PS.sp=_
      rw[hK.sp,hSp5.out,hsp'.out];rfl
     unfold bP
     rw[e1]
     exact⟨rfl,rfl⟩
    have hog:bF p0.ar n=some g:=by rw[kH hsr.out,←har.2];exact hpg
    obtain⟨ga,off,cap,cur,hv,hgB,hgk,hgs,hgc,hgw⟩:=hm1.ma.fr.put eT (by decide) f hfl
    have haf:Sn.H.af=some ⟨ga,off,none⟩:=(Value.slice.inj hv).1
    have hX:bB Sn.H.ma f=Sn.H.m.fs[f]:=by
     unfold bB
     show Sn.H.m.fs.getD f fr0=_
     rw[List.getD_eq_getElem?_getD,List.getElem?_eq_getElem hfl];rfl
    have hr0:=hB.rt.fewR (f:=f) hfl
    have hr1:0≤(Sn.H.m.fs[f]).r∧(Sn.H.m.fs[f]).r≤257:=by rw[←hX];exact hr0
    have hX':=Lib.hid hX
    have hgw':=Lib.hid hgw
    have hgc' : Hid (∀j u,(nE Sn.H.m.fs[f])[j]?=some u→cur[off+f*13+j]?=some u):=Lib.hid fun j u hj=>by rw[←hgk.cell];exact hgc j u hj
    have hc0:∀W,Below W1.heap.size W1 W→W.cell? ⟨ga,off+f*13+8,none⟩=some (.int .i64 (Sn.H.m.fs[f]).r):=fun W hb=>by
     rw[(hgk.ext hb).cell,←hgk.cell]
     exact hgc 8 _ rfl
    have hall:=Lib.hid (And.intro hpg (And.intro hL (And.intro har (And.intro hE (And.intro he0 hog)))))
    clear hX hgw hgc hr0 hv hpg hfit hE hfe hK hB hL hn0 har he0 hog
    generalize Sn.H.m.fs[f]=X at hc0 hr1 hX' hgc'
    have hw0:IntKind.i64.wrap (X.r+1)=X.r+1:=IntWalk.i64_in _ (by omega)
    go_upto_region 7 with (fail)
    refine aG 14 [_,_,_,_,_,_,_,_,_,_,_,_,_,_] (Gk rfl (Gk rfl (Gf b 1 rfl rfl (Gf b 1 rfl rfl (Gf b 1 rfl rfl (Gl hm1.blk (V:=.slice (some ⟨ga,off,none⟩) Sn.H.m.fs.length Sn.H.cf) (by simp[eP,haf]) rfl rfl rfl rfl (Gf gx 1 rfl rfl (Gl bx1 (V:=.int .i64 (f:Int)) (by simp[fI,hf0]) rfl rfl rfl rfl (Gr (.pointer (some ⟨ga,off+f*13,none⟩)) (fun ρ y W hb hKn=>(aU rfl (aA rfl hKn) (aA rfl hKn) hfl Tryz.underlying26 frame_size)) rfl rfl (Gf ga (off+f*13+8) rfl rfl (Gc (.int .i64 X.r) (fun W hb=>by simp[hc0 _ hb]) rfl rfl rfl rfl (Gb (.int .i64 (X.r+1)) (by simp[go_sem,hw0]) rfl rfl rfl rfl rfl (Gr (.pointer (some ⟨ga,off+f*13,none⟩)) (fun ρ y W hb hKn=>(aU rfl (aA rfl hKn) (aA rfl hKn) hfl Tryz.underlying26 frame_size)) rfl rfl (Gf ga (off+f*13+8) rfl rfl (aB))))))))))))))) (fun _=>rfl) rfl ?_
    intro y W8 hbW8 _
    have hgk8:=hgk.ext hbW8
    have hm8:=hm1.below hbW8
    have sm8:=sm1.below hbW8
    have bx8:=bx1.ext hbW8
    have fx8:=fx1.ext hbW8
    clear hm1 sm1 bx1 fx1 hgk hcx hc0 hbW8
    go_wp2_with (refine aC rfl _ _ _ rfl ga (off+f*13+8) _ [.int .i64 (X.r+1)] rfl rfl rfl _ _ hgk8 (by show off+f*13+8+1≤cur.size;omega) (by kernel_rfl) (fun u hu=>by cases List.mem_singleton.1 hu;rfl) ?_)
    intro w9 hb9 hg9
    rw[Cg (by omega) (fun j u hj=>hgc'.out j u hj)] at hb9
    have hx0:dm w9 B b (Sn.frs (Sn.H.m.fs.set f (dK X))):=hm8.putF hgk8 hgB hg9 (fs:=Sn.H.m.fs.set f (dK X)) (by simp) (by simpa using hgw'.out _ _ hb9)
    have hkaf:iY b Sn ga:=.inr (by simp only[dZ,haf];exact List.mem_cons_self)
    have sx0:MS w b S w9 (Sn.frs (Sn.H.m.fs.set f (dK X))):=sm8.put hg9 hkaf (fun x hx => .inl hx)
    have bx9:=bD bx8 hgk8 (by decide) hg9
    have fx9:=bD fx8 hgk8 (by decide) hg9
    have hg3:w9.cell? ⟨gf,n*6+3,none⟩=some (.bool g.sh):=by
     rw[fx9.cell]
     exact rX (bF p0.ar) n 3 hn64 _ (by rw[hall.out.2.2.2.2.2];rfl) (by decide)
    have hcx:=bx9.cell
    clear hm8 sm8 bx8 fx8 hgk8 hb9 hg9 haf hkaf
    unfold fI at hcx
    cases hsh:g.sh with
    | true=>
     rw[hsh] at hg3
     have hx:=hx0
     have sx:=sx0
     have bx:=bx9
     have fx1:=fx9
     have hkx:Hid (¬iY b (Sn.frs (Sn.H.m.fs.set f (dK X))) gf):=hkf
     have hkgx:Hid (¬iY b (Sn.frs (Sn.H.m.fs.set f (dK X))) gx):=hkgx
     have hT2:(Sn.frs (Sn.H.m.fs.set f (dK X))).T.length=2:=hTSn
     have h64a:(dE (Sn.frs (Sn.H.m.fs.set f (dK X))).T 0).length=64:=h64.out 0 (by decide)
     have h64b:(dE (Sn.frs (Sn.H.m.fs.set f (dK X))).T 1).length=64:=h64.out 1 (by decide)
     have hF12:Hid (Ah S5 { (Sn.frs (Sn.H.m.fs.set f (dK X))) with T:=setL (setL (Sn.frs (Sn.H.m.fs.set f (dK X))).T 0 n e) 1 n e }∧Bd (Sn.frs (Sn.H.m.fs.set f (dK X))).H.ma (setL (setL (Sn.frs (Sn.H.m.fs.set f (dK X))).T 0 n e) 1 n e)∧∀j:Nat,n+1≤j→dG (setL (setL (Sn.frs (Sn.H.m.fs.set f (dK X))).T 0 n e) 1 n e) 0 j=t0.getD j zEn∧(dG (setL (setL (Sn.frs (Sn.H.m.fs.set f (dK X))).T 0 n e) 1 n e) 1 j).k=0):=Lib.hid (by
      have hK:=hN.out.1
      have hB:=hN.out.2.1
      obtain⟨hpg,hL,har,hE,he0,hog⟩:=hall.out
      have h12:=hB.share1 (w:=e.w) hL hn64 har.1 (by rw[he0];exact hk1) (hN.out.2.2 n (Nat.le_refl _)).2 hpg (by rw[he0];exact hf0) (by rw[he0,hsh];rfl)
      rw[hX'.out,show (⟨1,(f:Int),e.w⟩:En)=e from by rw[←hf0,←hk1]] at h12
      have hE2:dC e=0:=by
       rw[bH] at hE ⊢
       rcases hE with h9|h9|h9
       ·omega
       ·first
        | exact .inr (.inl ⟨h9.1,h9.2⟩)
        | exact .inr (.inl ⟨rfl,by show (0:Int)≤f;omega,by show (f:Int)<40;omega⟩)
       ·omega
      exact⟨⟨hK.sp,hK.fi,hK.ct,hK.dk,by show (Sn.H.m.fs.set f (dK X)).length=_;rw[List.length_set];exact hK.fl,hK.sl⟩,h12,fun j hj=>by
       show dG (setL (setL Sn.T 0 n e) 1 n e) 0 j=_∧(dG (setL (setL Sn.T 0 n e) 1 n e) 1 j).k=0
       rw[mF hB.ok hL hn64 hE2 _ _ (by omega),mF hB.ok hL hn64 hE2 _ _ (by omega)]
       exact hN.out.2.2 j (by omega)⟩)
     generalize hSx:(Sn.frs (Sn.H.m.fs.set f (dK X)))=Sx at hx sx hkx hkgx hT2 h64a h64b hF12
     clear hx0 sx0 bx9 fx9
     obtain⟨gT2,oT2,_,hab2,hgT2B,hkT2,_⟩:=hx.ent (p:=0) (n:=n) (by omega) hn64 h64a
     have hgxT:gx≠gT2:=fun e9=>hkgx.out (.inr (by rw[e9];simp[dZ,hab2,oB];right;right;right;right;right;right;right;right;rfl))
     have hgfT:gf≠gT2:=fun e9=>hkx.out (.inr (by rw[e9];simp[dZ,hab2,oB];right;right;right;right;right;right;right;right;rfl))
     go_upto_region 12 with (fail)
     refine pY 17 [_,_,_,.v (.slice (some ⟨gT2,oT2,none⟩) 2 Sx.cb),_,_,_,_,.v (.slice (some ⟨gT2,oT2,none⟩) 2 Sx.cb),_,.v (.agg (fI e)),.v (.agg (fI e)),_,.v (.pointer (some ⟨gT2,oT2+n*3,none⟩)),.r 14 ((aQ fun _=>True)),_,.v (.pointer (some ⟨gT2,oT2+192+n*3,none⟩))] (Cx S Sx { Sx with T:=setL Sx.T 0 n e } B b w gx gf e (fC (bF p0.ar))) aM (fun _=>⟨⟨bx,fx1⟩,fun _=>⟨hx,sx⟩,fun h=>(by cases h)⟩) (Qk aM rfl (Qk aM rfl (Qf aM b 12 rfl rfl (ag ?_ (Qk aM rfl (Qk aM rfl (Qk aM rfl (Qf aM b 12 rfl rfl (ag ?_ (Qk aM rfl (ag ?_ (ag ?_ (Qr aM (.pointer (some ⟨gT2,oT2,none⟩)) (fun ρ y W hKn=>(aU (i:=0) rfl (aA rfl hKn) (aA rfl hKn) (by decide) Tryz.underlying75 ents_size)) rfl rfl (ag ?_ (ag ?_ (Qr aM (.pointer (some ⟨gT2,oT2+192,none⟩)) (fun ρ y W hKn=>(aU (i:=1) rfl (aA rfl hKn) (aA rfl hKn) (by decide) Tryz.underlying75 ents_size)) rfl rfl (ag ?_ (aB)))))))))))))))))) (fun _=>rfl) rfl ?_
     ·intro ρ y W L hw hn hLi hLd hb hd
      refine bY aM (fun _ _ h=>h) hb ?_
      have E93:=hw 93 2 rfl
      have h2:y 2=_:=hd 2 rfl
      have hcc:=mo hb (by simp[eP,setL])
      refine aj (.slice (some ⟨gT2,oT2,none⟩) 2 Sx.cb) (ah rfl) (by simp[execOp,go_sem,bZ,E93,h2,hcc,eP,hab2,hT2]) rfl
     ·intro ρ y W L hw hn hLi hLd hb hd
      refine bY aM (fun _ _ h=>h) hb ?_
      have E98:=hw 98 7 rfl
      have h7:y 7=_:=hd 7 rfl
      have hcc:=mo hb (by simp[eP,setL])
      refine aj (.slice (some ⟨gT2,oT2,none⟩) 2 Sx.cb) (ah rfl) (by simp[execOp,go_sem,bZ,E98,h7,hcc,eP,hab2,hT2]) rfl
     ·intro ρ y W L hw hn hLi hLd hb hd
      refine bY aM (fun _ _ h=>h) hb ?_
      have E4:ρ (.tmp 4) = .pointer (some ⟨gx,0,none⟩):=(hn (.tmp 4) rfl).trans rfl
      refine aj (.agg (fI e)) (ah rfl) (aX rfl E4 hb.1.1 Tryz.underlying89 rfl entry_size3) rfl
     ·intro ρ y W L hw hn hLi hLd hb hd
      refine bY aM (fun _ _ h=>h) hb ?_
      have E4:ρ (.tmp 4) = .pointer (some ⟨gx,0,none⟩):=(hn (.tmp 4) rfl).trans rfl
      refine aj (.agg (fI e)) (ah rfl) (aX rfl E4 hb.1.1 Tryz.underlying89 rfl entry_size3) rfl
     ·intro ρ y W L hw hn hLi hLd hb hd
      refine bY aM (fun _ _ h=>h) hb ?_
      have E103:=hw 103 12 rfl
      have h12:y 12=_:=hd 12 rfl
      have E95:=hw 95 4 rfl
      have h4:y 4=_:=hd 4 rfl
      have hn9:((64:Int)≤(n:Int))=False:=eq_false (by omega)
      refine aj (.pointer (some ⟨gT2,oT2+n*3,none⟩)) (ah rfl) (by simp[execOp,go_sem,bZ,E103,h12,E95,h4,hn64,hn9]) rfl
     ·intro ρ y W L hw hn hLi hLd hb hd;have E104:=hw 104 13 rfl;have h13:y 13=_:=hd 13 rfl;have E101:=hw 101 10 rfl;have h10:y 10=_:=hd 10 rfl
      obtain⟨hm9,hs9⟩:=hb.2.1 hLi
      obtain⟨gQ,oQ,curQ,hQ,hQB,hQk,hQs,_,hQw⟩:=hm9.ent (p:=0) (n:=n) (by omega) hn64 h64a
      cases (hQ.symm.trans hab2)
      rw[Nat.zero_mul,Nat.add_zero] at hQs hQw
      exact pX (ah rfl) (vK _ _ _ rfl gT2 (oT2+n*3) _ (ik e) (E104.trans h13) (E101.trans h10) rfl curQ _ hQk (by rw[dF];exact hQs) (by kernel_rfl) (bv (eY _))) ⟨⟨hb.1.1.grown (aL _ _ _ _) (fun e9=>hgxT (Option.some.inj e9).symm),hb.1.2.grown (aL _ _ _ _) (fun e9=>hgfT (Option.some.inj e9).symm)⟩,fun h=>(by cases h),fun _=>⟨hQw _ e (hQk.setCells _ _) (aL _ _ _ _),hs9.put (aL _ _ _ _) (.inr (by simp only[dZ,hab2];simp[oB];right;right;right;right;right;right;right;right;rfl)) (fun x hx => .inl hx)⟩⟩ trivial
     ·intro ρ y W L hw hn hLi hLd hb hd
      refine bY aM (fun _ _ h=>h) hb ?_
      have E105:=hw 105 15 rfl
      have h15:y 15=_:=hd 15 rfl
      have E100:=hw 100 9 rfl
      have h9:y 9=_:=hd 9 rfl
      have hn9:((64:Int)≤(n:Int))=False:=eq_false (by omega)
      refine aj (.pointer (some ⟨gT2,oT2+192+n*3,none⟩)) (ah rfl) (by simp[execOp,go_sem,bZ,E105,h15,E100,h9,hn64,hn9]) rfl
     intro y W9 hbW9 hRW9
     have hy14:((aQ fun _=>True)).r (y 14) W9:=hRW9 14 (by decide)
     clear hRW9
     simp only[bJ,bZ,List.map_cons,List.map_nil]
     obtain⟨⟨bx9,fx9⟩,_,hq9⟩:=hbW9
     obtain⟨h9,s9⟩:=hq9 rfl
     have hT9:(setL Sx.T 0 n e).length=2:=by unfold setL;rw[List.length_set];exact hT2
     obtain⟨gR,oR',curR,hR,hRB,hRk,hRs,_,hRw⟩:=h9.ent (p:=1) (n:=n) (by show 1<(setL Sx.T 0 n e).length;omega) hn64 (by
      show (dE (setL Sx.T 0 n e) 1).length=64
      rw[lL (by omega),if_neg (by decide)]
      exact h64b)
     have hR:Sx.ab=some ⟨gR,oR',none⟩:=hR
     cases (hR.symm.trans hab2)
     rw[Nat.one_mul] at hRs hRw
     have hRw':=Lib.hid hRw
     clear hRw hq9 hx sx bx fx1
     go_wp2_with (refine aC rfl _ _ _ rfl gT2 (oT2+192+n*3) _ (ik e) rfl rfl rfl _ _ hRk (by rw[dF];exact hRs) (by kernel_rfl) (bv (eY _)) ?_)
     intro w10 hb10 hg10
     have h10:=hRw'.out w10 e hb10 hg10
     have s10:MS w b S w10 { Sx with T:=setL (setL Sx.T 0 n e) 1 n e }:=s9.put hg10 (.inr (by simp only[dZ,hab2];simp[oB];right;right;right;right;right;right;right;right;rfl)) (fun x hx => .inl hx)
     have fx10:=fx9.grown hg10 (fun e9=>hgfT (Option.some.inj e9).symm)
     clear h9 s9 bx9 fx9 hRk hb10 hg10
     go_wp2
     go_roundw
     case rel=>exact⟨n+1,_,by omega,by go_num,h10,s10,fx10,hkx,hF12⟩
     case measure=>simp[intOf];omega
    | false=>
     rw[hsh] at hg3
     go_wp2_with (refine aC rfl _ _ _ rfl gx 2 _ [.bool false] rfl rfl rfl _ _ bx9 (by show 2+1≤3;omega) (by kernel_rfl) (fun u hu=>by cases List.mem_singleton.1 hu;rfl) ?_)
     intro w10 bx hg10
     have bx:aF w10 gx (fI ⟨1,(f:Int),false⟩) 89:=bx
     have hx:dm w10 B b (Sn.frs (Sn.H.m.fs.set f (dK X))):=hx0.locE bx9 hkgx.out hfar.out hgxB hg10
     have sx:=sx0.loc hg10 hgxw.out
     have fx1:=fx9.grown hg10 (fun e9=>hgfx (Option.some.inj e9).symm)
     clear hcx
     have hcx:=bx.cell
     unfold fI at hcx
     have hkx:Hid (¬iY b (Sn.frs (Sn.H.m.fs.set f (dK X))) gf):=hkf
     have hkgx:Hid (¬iY b (Sn.frs (Sn.H.m.fs.set f (dK X))) gx):=hkgx
     have hT2:(Sn.frs (Sn.H.m.fs.set f (dK X))).T.length=2:=hTSn
     have h64a:(dE (Sn.frs (Sn.H.m.fs.set f (dK X))).T 0).length=64:=h64.out 0 (by decide)
     have h64b:(dE (Sn.frs (Sn.H.m.fs.set f (dK X))).T 1).length=64:=h64.out 1 (by decide)
     have hF12:Hid (Ah S5 { (Sn.frs (Sn.H.m.fs.set f (dK X))) with T:=setL (setL (Sn.frs (Sn.H.m.fs.set f (dK X))).T 0 n (⟨1,(f:Int),false⟩:En)) 1 n (⟨1,(f:Int),false⟩:En) }∧Bd (Sn.frs (Sn.H.m.fs.set f (dK X))).H.ma (setL (setL (Sn.frs (Sn.H.m.fs.set f (dK X))).T 0 n (⟨1,(f:Int),false⟩:En)) 1 n (⟨1,(f:Int),false⟩:En))∧∀j:Nat,n+1≤j→dG (setL (setL (Sn.frs (Sn.H.m.fs.set f (dK X))).T 0 n (⟨1,(f:Int),false⟩:En)) 1 n (⟨1,(f:Int),false⟩:En)) 0 j=t0.getD j zEn∧(dG (setL (setL (Sn.frs (Sn.H.m.fs.set f (dK X))).T 0 n (⟨1,(f:Int),false⟩:En)) 1 n (⟨1,(f:Int),false⟩:En)) 1 j).k=0):=Lib.hid (by
      have hK:=hN.out.1
      have hB:=hN.out.2.1
      obtain⟨hpg,hL,har,hE,he0,hog⟩:=hall.out
      have h12:=hB.share1 (w:=false) hL hn64 har.1 (by rw[he0];exact hk1) (hN.out.2.2 n (Nat.le_refl _)).2 hpg (by rw[he0];exact hf0) (by rw[he0,hsh];rfl)
      rw[hX'.out,show (⟨1,(f:Int),false⟩:En)=(⟨1,(f:Int),false⟩:En) from by rw[←hf0,←hk1]] at h12
      have hE2:dC (⟨1,(f:Int),false⟩:En)=0:=by
       rw[bH] at hE ⊢
       rcases hE with h9|h9|h9
       ·omega
       ·first
        | exact .inr (.inl ⟨h9.1,h9.2⟩)
        | exact .inr (.inl ⟨rfl,by show (0:Int)≤f;omega,by show (f:Int)<40;omega⟩)
       ·omega
      exact⟨⟨hK.sp,hK.fi,hK.ct,hK.dk,by show (Sn.H.m.fs.set f (dK X)).length=_;rw[List.length_set];exact hK.fl,hK.sl⟩,h12,fun j hj=>by
       show dG (setL (setL Sn.T 0 n (⟨1,(f:Int),false⟩:En)) 1 n (⟨1,(f:Int),false⟩:En)) 0 j=_∧(dG (setL (setL Sn.T 0 n (⟨1,(f:Int),false⟩:En)) 1 n (⟨1,(f:Int),false⟩:En)) 1 j).k=0
       rw[mF hB.ok hL hn64 hE2 _ _ (by omega),mF hB.ok hL hn64 hE2 _ _ (by omega)]
       exact hN.out.2.2 j (by omega)⟩)
     generalize hSx:(Sn.frs (Sn.H.m.fs.set f (dK X)))=Sx at hx sx hkx hkgx hT2 h64a h64b hF12
     clear hx0 sx0 bx9 fx9 hg10
     obtain⟨gT2,oT2,_,hab2,hgT2B,hkT2,_⟩:=hx.ent (p:=0) (n:=n) (by omega) hn64 h64a
     have hgxT:gx≠gT2:=fun e9=>hkgx.out (.inr (by rw[e9];simp[dZ,hab2,oB];right;right;right;right;right;right;right;right;rfl))
     have hgfT:gf≠gT2:=fun e9=>hkx.out (.inr (by rw[e9];simp[dZ,hab2,oB];right;right;right;right;right;right;right;right;rfl))
     go_upto_region 12 with (fail)
     refine pY 17 [_,_,_,.v (.slice (some ⟨gT2,oT2,none⟩) 2 Sx.cb),_,_,_,_,.v (.slice (some ⟨gT2,oT2,none⟩) 2 Sx.cb),_,.v (.agg (fI (⟨1,(f:Int),false⟩:En))),.v (.agg (fI (⟨1,(f:Int),false⟩:En))),_,.v (.pointer (some ⟨gT2,oT2+n*3,none⟩)),.r 14 ((aQ fun _=>True)),_,.v (.pointer (some ⟨gT2,oT2+192+n*3,none⟩))] (Cx S Sx { Sx with T:=setL Sx.T 0 n (⟨1,(f:Int),false⟩:En) } B b w gx gf (⟨1,(f:Int),false⟩:En) (fC (bF p0.ar))) aM (fun _=>⟨⟨bx,fx1⟩,fun _=>⟨hx,sx⟩,fun h=>(by cases h)⟩) (Qk aM rfl (Qk aM rfl (Qf aM b 12 rfl rfl (ag ?_ (Qk aM rfl (Qk aM rfl (Qk aM rfl (Qf aM b 12 rfl rfl (ag ?_ (Qk aM rfl (ag ?_ (ag ?_ (Qr aM (.pointer (some ⟨gT2,oT2,none⟩)) (fun ρ y W hKn=>(aU (i:=0) rfl (aA rfl hKn) (aA rfl hKn) (by decide) Tryz.underlying75 ents_size)) rfl rfl (ag ?_ (ag ?_ (Qr aM (.pointer (some ⟨gT2,oT2+192,none⟩)) (fun ρ y W hKn=>(aU (i:=1) rfl (aA rfl hKn) (aA rfl hKn) (by decide) Tryz.underlying75 ents_size)) rfl rfl (ag ?_ (aB)))))))))))))))))) (fun _=>rfl) rfl ?_
     ·intro ρ y W L hw hn hLi hLd hb hd
      refine bY aM (fun _ _ h=>h) hb ?_
      have E93:=hw 93 2 rfl
      have h2:y 2=_:=hd 2 rfl
      have hcc:=mo hb (by simp[eP,setL])
      refine aj (.slice (some ⟨gT2,oT2,none⟩) 2 Sx.cb) (ah rfl) (by simp[execOp,go_sem,bZ,E93,h2,hcc,eP,hab2,hT2]) rfl
     ·intro ρ y W L hw hn hLi hLd hb hd
      refine bY aM (fun _ _ h=>h) hb ?_
      have E98:=hw 98 7 rfl
      have h7:y 7=_:=hd 7 rfl
      have hcc:=mo hb (by simp[eP,setL])
      refine aj (.slice (some ⟨gT2,oT2,none⟩) 2 Sx.cb) (ah rfl) (by simp[execOp,go_sem,bZ,E98,h7,hcc,eP,hab2,hT2]) rfl
     ·intro ρ y W L hw hn hLi hLd hb hd
      refine bY aM (fun _ _ h=>h) hb ?_
      have E4:ρ (.tmp 4) = .pointer (some ⟨gx,0,none⟩):=(hn (.tmp 4) rfl).trans rfl
      refine aj (.agg (fI (⟨1,(f:Int),false⟩:En))) (ah rfl) (aX rfl E4 hb.1.1 Tryz.underlying89 rfl entry_size3) rfl
     ·intro ρ y W L hw hn hLi hLd hb hd
      refine bY aM (fun _ _ h=>h) hb ?_
      have E4:ρ (.tmp 4) = .pointer (some ⟨gx,0,none⟩):=(hn (.tmp 4) rfl).trans rfl
      refine aj (.agg (fI (⟨1,(f:Int),false⟩:En))) (ah rfl) (aX rfl E4 hb.1.1 Tryz.underlying89 rfl entry_size3) rfl
     ·intro ρ y W L hw hn hLi hLd hb hd
      refine bY aM (fun _ _ h=>h) hb ?_
      have E103:=hw 103 12 rfl
      have h12:y 12=_:=hd 12 rfl
      have E95:=hw 95 4 rfl
      have h4:y 4=_:=hd 4 rfl
      have hn9:((64:Int)≤(n:Int))=False:=eq_false (by omega)
      refine aj (.pointer (some ⟨gT2,oT2+n*3,none⟩)) (ah rfl) (by simp[execOp,go_sem,bZ,E103,h12,E95,h4,hn64,hn9]) rfl
     ·intro ρ y W L hw hn hLi hLd hb hd;have E104:=hw 104 13 rfl;have h13:y 13=_:=hd 13 rfl;have E101:=hw 101 10 rfl;have h10:y 10=_:=hd 10 rfl
      obtain⟨hm9,hs9⟩:=hb.2.1 hLi
      obtain⟨gQ,oQ,curQ,hQ,hQB,hQk,hQs,_,hQw⟩:=hm9.ent (p:=0) (n:=n) (by omega) hn64 h64a
      cases (hQ.symm.trans hab2)
      rw[Nat.zero_mul,Nat.add_zero] at hQs hQw
      exact pX (ah rfl) (vK _ _ _ rfl gT2 (oT2+n*3) _ (ik (⟨1,(f:Int),false⟩:En)) (E104.trans h13) (E101.trans h10) rfl curQ _ hQk (by rw[dF];exact hQs) (by kernel_rfl) (bv (eY _))) ⟨⟨hb.1.1.grown (aL _ _ _ _) (fun e9=>hgxT (Option.some.inj e9).symm),hb.1.2.grown (aL _ _ _ _) (fun e9=>hgfT (Option.some.inj e9).symm)⟩,fun h=>(by cases h),fun _=>⟨hQw _ (⟨1,(f:Int),false⟩:En) (hQk.setCells _ _) (aL _ _ _ _),hs9.put (aL _ _ _ _) (.inr (by simp only[dZ,hab2];simp[oB];right;right;right;right;right;right;right;right;rfl)) (fun x hx => .inl hx)⟩⟩ trivial
     ·intro ρ y W L hw hn hLi hLd hb hd
      refine bY aM (fun _ _ h=>h) hb ?_
      have E105:=hw 105 15 rfl
      have h15:y 15=_:=hd 15 rfl
      have E100:=hw 100 9 rfl
      have h9:y 9=_:=hd 9 rfl
      have hn9:((64:Int)≤(n:Int))=False:=eq_false (by omega)
      refine aj (.pointer (some ⟨gT2,oT2+192+n*3,none⟩)) (ah rfl) (by simp[execOp,go_sem,bZ,E105,h15,E100,h9,hn64,hn9]) rfl
     intro y W9 hbW9 hRW9
     have hy14:((aQ fun _=>True)).r (y 14) W9:=hRW9 14 (by decide)
     clear hRW9
     simp only[bJ,bZ,List.map_cons,List.map_nil]
     obtain⟨⟨bx9,fx9⟩,_,hq9⟩:=hbW9
     obtain⟨h9,s9⟩:=hq9 rfl
     have hT9:(setL Sx.T 0 n (⟨1,(f:Int),false⟩:En)).length=2:=by unfold setL;rw[List.length_set];exact hT2
     obtain⟨gR,oR',curR,hR,hRB,hRk,hRs,_,hRw⟩:=h9.ent (p:=1) (n:=n) (by show 1<(setL Sx.T 0 n (⟨1,(f:Int),false⟩:En)).length;omega) hn64 (by
      show (dE (setL Sx.T 0 n (⟨1,(f:Int),false⟩:En)) 1).length=64
      rw[lL (by omega),if_neg (by decide)]
      exact h64b)
     have hR:Sx.ab=some ⟨gR,oR',none⟩:=hR
     cases (hR.symm.trans hab2)
     rw[Nat.one_mul] at hRs hRw
     have hRw':=Lib.hid hRw
     clear hRw hq9 hx sx bx fx1
     go_wp2_with (refine aC rfl _ _ _ rfl gT2 (oT2+192+n*3) _ (ik (⟨1,(f:Int),false⟩:En)) rfl rfl rfl _ _ hRk (by rw[dF];exact hRs) (by kernel_rfl) (bv (eY _)) ?_)
     intro w10 hb10 hg10
     have h10:=hRw'.out w10 (⟨1,(f:Int),false⟩:En) hb10 hg10
     have s10:MS w b S w10 { Sx with T:=setL (setL Sx.T 0 n (⟨1,(f:Int),false⟩:En)) 1 n (⟨1,(f:Int),false⟩:En) }:=s9.put hg10 (.inr (by simp only[dZ,hab2];simp[oB];right;right;right;right;right;right;right;right;rfl)) (fun x hx => .inl hx)
     have fx10:=fx9.grown hg10 (fun e9=>hgfT (Option.some.inj e9).symm)
     clear h9 s9 bx9 fx9 hRk hb10 hg10
     go_wp2
     go_roundw
     case rel=>exact⟨n+1,_,by omega,by go_num,h10,s10,fx10,hkx,hF12⟩
     case measure=>simp[intOf];omega
   ·by_cases hk2:e.k=2
    ·have hK:=hN.out.1
     have hB:=hN.out.2.1
     have hL:Sn.H.ma.sp.length=2:=by rw[←hB.ok.len];exact hTSn
     have he0:dG Sn.T 0 n=e:=by rw[(hN.out.2.2 n (Nat.le_refl _)).1];exact he'.out
     have hE:=qQ hB.ok (p:=0) (n:=n) (by omega) hn64
     rw[he0] at hE
     have hfe:=iH hB.ok (p:=0) (n:=n) (by omega) hn64
     rw[he0] at hfe
     obtain⟨g,hpg,hfit⟩:=hB.rt.en 0 n (by rw[hfe,hk2];decide)
     rw[hfe] at hfit
     have hn0:0≤e.n:=by rcases (bH _).1 hE with h9 | h9 | h9<;>omega
     obtain⟨s0,hs0⟩:=Int.eq_ofNat_of_zero_le hn0
     have hsl:s0<Sn.H.sl.length:=by
      have h9:=(hfit.sw hk2).1
      have e1:((dh Sn.H.ma Sn.T).sl.length:Nat)=Sn.H.sl.length:=rfl
      omega
     obtain⟨gs,off,cap,cur,hv,hgB,hgk,hgs,hgc,hgw⟩:=Own.put (enc:=fun x=>[dL x]) (sz:=1) (l:=Sn.H.sl) (fun _=>rfl) Nat.one_pos (by rw[kP];exact hm1.ma.sl) s0 hsl
     have has:Sn.H.asl=some ⟨gs,off,none⟩:=(Value.slice.inj hv).1
     rw[Nat.mul_one] at hgs hgc hgw
     have hz0:fK Sn.H.ma s0=Sn.H.sl[s0]:=by
      unfold fK
      show Sn.H.sl.getD s0 0=_
      rw[List.getD_eq_getElem?_getD,List.getElem?_eq_getElem hsl];rfl
     have hfw9:=hB.rt.fewS (s:=s0) hsl
     have hfw8:0≤Sn.H.sl[s0]∧Sn.H.sl[s0]≤256:=by rw[←hz0];exact hfw9
     have hgw':=Lib.hid hgw
     have hz0':=Lib.hid hz0
     have hc0:∀W,Below W1.heap.size W1 W→W.cell? ⟨gs,off+s0,none⟩=some (.int .i64 Sn.H.sl[s0]):=fun W hb=>by
      have h9:=hgc 0 _ rfl
      rw[Nat.add_zero] at h9
      have h8:=(hgk.ext hb).cell (off+s0)
      rw[h8,←hgk.cell];exact h9
     have hps:=Lib.hid (And.intro hpg hL)
     clear hz0 hgw hgc hfw9 hv hpg hfit hE hfe hK hB hL hn0
     generalize Sn.H.sl[s0]=v0 at hc0 hfw8 hz0'
     have hw0:IntKind.i64.wrap (v0+1)=v0+1:=IntWalk.i64_in _ (by omega)
     have he0':=Lib.hid he0
     clear he0
     go_upto_region 11 with (fail)
     refine aG 11 [_,_,_,_,_,_,_,_,_,_,_] (Gk rfl (Gk rfl (Gf b 1 rfl rfl (Gf b 3 rfl rfl (Gl hm1.blk (V:=.slice (some ⟨gs,off,none⟩) Sn.H.sl.length Sn.H.csl) (by simp[eP,has]) rfl rfl rfl rfl (Gf gx 1 rfl rfl (Gl bx1 (V:=.int .i64 (s0:Int)) (by simp[fI,hs0]) rfl rfl rfl rfl (Gr (.pointer (some ⟨gs,off+s0,none⟩)) (fun ρ y W hb hKn=>(AC rfl (aA rfl hKn) (aA rfl hKn) hsl)) rfl rfl (Gc (.int .i64 v0) (fun W hb=>by simp[hc0 _ hb]) rfl rfl rfl rfl (Gb (.int .i64 (v0+1)) (by simp[go_sem,hw0]) rfl rfl rfl rfl rfl (Gr (.pointer (some ⟨gs,off+s0,none⟩)) (fun ρ y W hb hKn=>(AC rfl (aA rfl hKn) (aA rfl hKn) hsl)) rfl rfl (aB)))))))))))) (fun _=>rfl) rfl ?_
     intro y W8 hbW8 _
     have hgk8:=hgk.ext hbW8
     have hm8:=hm1.below hbW8
     have sm8:=sm1.below hbW8
     have bx8:=bx1.ext hbW8
     have fx8:=fx1.ext hbW8
     clear hm1 sm1 bx1 fx1 hgk hcx hc0 hbW8
     go_wp2_with (refine aC rfl _ _ _ rfl gs (off+s0) _ [.int .i64 (v0+1)] rfl rfl rfl _ _ hgk8 (by show off+s0+1≤cur.size;omega) (by kernel_rfl) (fun u hu=>by cases List.mem_singleton.1 hu;rfl) ?_)
     intro w9 hb9 hg9
     have hga:oB Sn.H.asl=some gs:=by rw[has];rfl
     have hx:dm w9 B b { Sn with H:={ Sn.H with sl:=Sn.H.sl.set s0 (v0+1) } }:=hm8.putS hgk8 hgB hga hg9 (sl:=Sn.H.sl.set s0 (v0+1)) (by simp) (by
      have h9:=hgw'.out w9 (v0+1) hb9
      rw[kP] at h9
      simpa using h9)
     have sx:MS w b S w9 { Sn with H:={ Sn.H with sl:=Sn.H.sl.set s0 (v0+1) } }:=sm8.put hg9 (.inr (by simp[dZ,hga])) (fun x hx => .inl hx)
     have bx:=bD bx8 hgk8 (by decide) hg9
     have fx1:=bD fx8 hgk8 (by decide) hg9
     have hkx:Hid (¬iY b ({ Sn with H:={ Sn.H with sl:=Sn.H.sl.set s0 (v0+1) } }:MW) gf):=hkf
     have hkgx:Hid (¬iY b ({ Sn with H:={ Sn.H with sl:=Sn.H.sl.set s0 (v0+1) } }:MW) gx):=hkgx
     have hT2:({ Sn with H:={ Sn.H with sl:=Sn.H.sl.set s0 (v0+1) } }:MW).T.length=2:=hTSn
     have h64a:(dE ({ Sn with H:={ Sn.H with sl:=Sn.H.sl.set s0 (v0+1) } }:MW).T 0).length=64:=h64.out 0 (by decide)
     have h64b:(dE ({ Sn with H:={ Sn.H with sl:=Sn.H.sl.set s0 (v0+1) } }:MW).T 1).length=64:=h64.out 1 (by decide)
     have hF12:Hid (Ah S5 { ({ Sn with H:={ Sn.H with sl:=Sn.H.sl.set s0 (v0+1) } }:MW) with T:=setL (setL ({ Sn with H:={ Sn.H with sl:=Sn.H.sl.set s0 (v0+1) } }:MW).T 0 n e) 1 n e }∧Bd ({ Sn with H:={ Sn.H with sl:=Sn.H.sl.set s0 (v0+1) } }:MW).H.ma (setL (setL ({ Sn with H:={ Sn.H with sl:=Sn.H.sl.set s0 (v0+1) } }:MW).T 0 n e) 1 n e)∧∀j:Nat,n+1≤j→dG (setL (setL ({ Sn with H:={ Sn.H with sl:=Sn.H.sl.set s0 (v0+1) } }:MW).T 0 n e) 1 n e) 0 j=t0.getD j zEn∧(dG (setL (setL ({ Sn with H:={ Sn.H with sl:=Sn.H.sl.set s0 (v0+1) } }:MW).T 0 n e) 1 n e) 1 j).k=0):=Lib.hid (by
      have hK:=hN.out.1
      have hB:=hN.out.2.1
      have hL:=hps.out.2
      have hE:=qQ hB.ok (p:=0) (n:=n) (by omega) hn64
      rw[he0'.out] at hE
      have hpg:=hps.out.1
      rw[jD (by omega)] at hpg
      have har:(bP Sn.H.ma 1).ar=(bP Sn.H.ma 0).ar:=by
       show ((Sn.H.sp.map PS.sp).getD 1 zSp).ar=((Sn.H.sp.map PS.sp).getD 0 zSp).ar
       rw[hK.sp,hSp5.out,hsp'.out];rfl
      have h12:=hB.share2 hL hn64 har (by rw[he0'.out];exact hk2) (hN.out.2.2 n (Nat.le_refl _)).2 hpg (by rw[he0'.out];exact hs0)
      rw[he0'.out,hz0'.out] at h12
      exact⟨⟨hK.sp,hK.fi,hK.ct,hK.dk,hK.fl,by show (Sn.H.sl.set s0 (v0+1)).length=_;rw[List.length_set];exact hK.sl⟩,h12,fun j hj=>by
       show dG (setL (setL Sn.T 0 n e) 1 n e) 0 j=_∧(dG (setL (setL Sn.T 0 n e) 1 n e) 1 j).k=0
       rw[mF hB.ok hL hn64 hE _ _ (by omega),mF hB.ok hL hn64 hE _ _ (by omega)]
       exact hN.out.2.2 j (by omega)⟩)
     clear hm8 sm8 bx8 fx8 hgk8 hb9 hg9 has hga
     generalize hSx:({ Sn with H:={ Sn.H with sl:=Sn.H.sl.set s0 (v0+1) } }:MW)=Sx at hx sx hkx hkgx hT2 h64a h64b hF12
     obtain⟨gT2,oT2,_,hab2,hgT2B,hkT2,_⟩:=hx.ent (p:=0) (n:=n) (by omega) hn64 h64a
     have hgxT:gx≠gT2:=fun e9=>hkgx.out (.inr (by rw[e9];simp[dZ,hab2,oB];right;right;right;right;right;right;right;right;rfl))
     have hgfT:gf≠gT2:=fun e9=>hkx.out (.inr (by rw[e9];simp[dZ,hab2,oB];right;right;right;right;right;right;right;right;rfl))
     go_upto_region 12 with (fail)
     refine pY 17 [_,_,_,.v (.slice (some ⟨gT2,oT2,none⟩) 2 Sx.cb),_,_,_,_,.v (.slice (some ⟨gT2,oT2,none⟩) 2 Sx.cb),_,.v (.agg (fI e)),.v (.agg (fI e)),_,.v (.pointer (some ⟨gT2,oT2+n*3,none⟩)),.r 14 ((aQ fun _=>True)),_,.v (.pointer (some ⟨gT2,oT2+192+n*3,none⟩))] (Cx S Sx { Sx with T:=setL Sx.T 0 n e } B b w gx gf e (fC (bF p0.ar))) aM (fun _=>⟨⟨bx,fx1⟩,fun _=>⟨hx,sx⟩,fun h=>(by cases h)⟩) (Qk aM rfl (Qk aM rfl (Qf aM b 12 rfl rfl (ag ?_ (Qk aM rfl (Qk aM rfl (Qk aM rfl (Qf aM b 12 rfl rfl (ag ?_ (Qk aM rfl (ag ?_ (ag ?_ (Qr aM (.pointer (some ⟨gT2,oT2,none⟩)) (fun ρ y W hKn=>(aU (i:=0) rfl (aA rfl hKn) (aA rfl hKn) (by decide) Tryz.underlying75 ents_size)) rfl rfl (ag ?_ (ag ?_ (Qr aM (.pointer (some ⟨gT2,oT2+192,none⟩)) (fun ρ y W hKn=>(aU (i:=1) rfl (aA rfl hKn) (aA rfl hKn) (by decide) Tryz.underlying75 ents_size)) rfl rfl (ag ?_ (aB)))))))))))))))))) (fun _=>rfl) rfl ?_
     ·intro ρ y W L hw hn hLi hLd hb hd
      refine bY aM (fun _ _ h=>h) hb ?_
      have E93:=hw 93 2 rfl
      have h2:y 2=_:=hd 2 rfl
      have hcc:=mo hb (by simp[eP,setL])
      refine aj (.slice (some ⟨gT2,oT2,none⟩) 2 Sx.cb) (ah rfl) (by simp[execOp,go_sem,bZ,E93,h2,hcc,eP,hab2,hT2]) rfl
     ·intro ρ y W L hw hn hLi hLd hb hd
      refine bY aM (fun _ _ h=>h) hb ?_
      have E98:=hw 98 7 rfl
      have h7:y 7=_:=hd 7 rfl
      have hcc:=mo hb (by simp[eP,setL])
      refine aj (.slice (some ⟨gT2,oT2,none⟩) 2 Sx.cb) (ah rfl) (by simp[execOp,go_sem,bZ,E98,h7,hcc,eP,hab2,hT2]) rfl
     ·intro ρ y W L hw hn hLi hLd hb hd
      refine bY aM (fun _ _ h=>h) hb ?_
      have E4:ρ (.tmp 4) = .pointer (some ⟨gx,0,none⟩):=(hn (.tmp 4) rfl).trans rfl
      refine aj (.agg (fI e)) (ah rfl) (aX rfl E4 hb.1.1 Tryz.underlying89 rfl entry_size3) rfl
     ·intro ρ y W L hw hn hLi hLd hb hd
      refine bY aM (fun _ _ h=>h) hb ?_
      have E4:ρ (.tmp 4) = .pointer (some ⟨gx,0,none⟩):=(hn (.tmp 4) rfl).trans rfl
      refine aj (.agg (fI e)) (ah rfl) (aX rfl E4 hb.1.1 Tryz.underlying89 rfl entry_size3) rfl
     ·intro ρ y W L hw hn hLi hLd hb hd
      refine bY aM (fun _ _ h=>h) hb ?_
      have E103:=hw 103 12 rfl
      have h12:y 12=_:=hd 12 rfl
      have E95:=hw 95 4 rfl
      have h4:y 4=_:=hd 4 rfl
      have hn9:((64:Int)≤(n:Int))=False:=eq_false (by omega)
      refine aj (.pointer (some ⟨gT2,oT2+n*3,none⟩)) (ah rfl) (by simp[execOp,go_sem,bZ,E103,h12,E95,h4,hn64,hn9]) rfl
     ·intro ρ y W L hw hn hLi hLd hb hd;have E104:=hw 104 13 rfl;have h13:y 13=_:=hd 13 rfl;have E101:=hw 101 10 rfl;have h10:y 10=_:=hd 10 rfl
      obtain⟨hm9,hs9⟩:=hb.2.1 hLi
      obtain⟨gQ,oQ,curQ,hQ,hQB,hQk,hQs,_,hQw⟩:=hm9.ent (p:=0) (n:=n) (by omega) hn64 h64a
      cases (hQ.symm.trans hab2)
      rw[Nat.zero_mul,Nat.add_zero] at hQs hQw
      exact pX (ah rfl) (vK _ _ _ rfl gT2 (oT2+n*3) _ (ik e) (E104.trans h13) (E101.trans h10) rfl curQ _ hQk (by rw[dF];exact hQs) (by kernel_rfl) (bv (eY _))) ⟨⟨hb.1.1.grown (aL _ _ _ _) (fun e9=>hgxT (Option.some.inj e9).symm),hb.1.2.grown (aL _ _ _ _) (fun e9=>hgfT (Option.some.inj e9).symm)⟩,fun h=>(by cases h),fun _=>⟨hQw _ e (hQk.setCells _ _) (aL _ _ _ _),hs9.put (aL _ _ _ _) (.inr (by simp only[dZ,hab2];simp[oB];right;right;right;right;right;right;right;right;rfl)) (fun x hx => .inl hx)⟩⟩ trivial
     ·intro ρ y W L hw hn hLi hLd hb hd
      refine bY aM (fun _ _ h=>h) hb ?_
      have E105:=hw 105 15 rfl
      have h15:y 15=_:=hd 15 rfl
      have E100:=hw 100 9 rfl
      have h9:y 9=_:=hd 9 rfl
      have hn9:((64:Int)≤(n:Int))=False:=eq_false (by omega)
      refine aj (.pointer (some ⟨gT2,oT2+192+n*3,none⟩)) (ah rfl) (by simp[execOp,go_sem,bZ,E105,h15,E100,h9,hn64,hn9]) rfl
     intro y W9 hbW9 hRW9
     have hy14:((aQ fun _=>True)).r (y 14) W9:=hRW9 14 (by decide)
     clear hRW9
     simp only[bJ,bZ,List.map_cons,List.map_nil]
     obtain⟨⟨bx9,fx9⟩,_,hq9⟩:=hbW9
     obtain⟨h9,s9⟩:=hq9 rfl
     have hT9:(setL Sx.T 0 n e).length=2:=by unfold setL;rw[List.length_set];exact hT2
     obtain⟨gR,oR',curR,hR,hRB,hRk,hRs,_,hRw⟩:=h9.ent (p:=1) (n:=n) (by show 1<(setL Sx.T 0 n e).length;omega) hn64 (by
      show (dE (setL Sx.T 0 n e) 1).length=64
      rw[lL (by omega),if_neg (by decide)]
      exact h64b)
     have hR:Sx.ab=some ⟨gR,oR',none⟩:=hR
     cases (hR.symm.trans hab2)
     rw[Nat.one_mul] at hRs hRw
     have hRw':=Lib.hid hRw
     clear hRw hq9 hx sx bx fx1
     go_wp2_with (refine aC rfl _ _ _ rfl gT2 (oT2+192+n*3) _ (ik e) rfl rfl rfl _ _ hRk (by rw[dF];exact hRs) (by kernel_rfl) (bv (eY _)) ?_)
     intro w10 hb10 hg10
     have h10:=hRw'.out w10 e hb10 hg10
     have s10:MS w b S w10 { Sx with T:=setL (setL Sx.T 0 n e) 1 n e }:=s9.put hg10 (.inr (by simp only[dZ,hab2];simp[oB];right;right;right;right;right;right;right;right;rfl)) (fun x hx => .inl hx)
     have fx10:=fx9.grown hg10 (fun e9=>hgfT (Option.some.inj e9).symm)
     clear h9 s9 bx9 fx9 hRk hb10 hg10
     go_wp2
     go_roundw
     case rel=>exact⟨n+1,_,by omega,by go_num,h10,s10,fx10,hkx,hF12⟩
     case measure=>simp[intOf];omega
    ·have hx:=hm1
     have sx:=sm1
     have bx:=bx1
     have hkx:=hkf
     have hT2:=hTSn
     have h64a:=h64.out 0 (by decide)
     have h64b:=h64.out 1 (by decide)
     have hF12:Hid (Ah S5 { Sn with T:=setL (setL Sn.T 0 n e) 1 n e }∧Bd Sn.H.ma (setL (setL Sn.T 0 n e) 1 n e)∧∀j:Nat,n+1≤j→dG (setL (setL Sn.T 0 n e) 1 n e) 0 j=t0.getD j zEn∧(dG (setL (setL Sn.T 0 n e) 1 n e) 1 j).k=0):=Lib.hid (by
      have hK:=hN.out.1
      have hB:=hN.out.2.1
      have hL:Sn.H.ma.sp.length=2:=by rw[←hB.ok.len];exact hTSn
      have he0:dG Sn.T 0 n=e:=by rw[(hN.out.2.2 n (Nat.le_refl _)).1];exact he'.out
      have hE:=qQ hB.ok (p:=0) (n:=n) (by omega) hn64
      rw[he0] at hE
      have hk0:e.k=0:=by
       rcases (bH _).1 hE with h9|h9|h9
       ·exact h9.1
       ·exact absurd h9.1 hk1
       ·exact absurd h9.1 hk2
      have h12:=hB.share0 hL hn64 (by rw[he0];exact hk0) (hN.out.2.2 n (Nat.le_refl _)).2
      rw[he0] at h12
      exact⟨⟨hK.sp,hK.fi,hK.ct,hK.dk,hK.fl,hK.sl⟩,h12,fun j hj=>by
       rw[mF hB.ok hL hn64 hE _ _ (by omega),mF hB.ok hL hn64 hE _ _ (by omega)]
       exact hN.out.2.2 j (by omega)⟩)
     generalize hSx:Sn=Sx at hx sx hkx hkgx hT2 h64a h64b hF12
     obtain⟨gT2,oT2,_,hab2,hgT2B,hkT2,_⟩:=hx.ent (p:=0) (n:=n) (by omega) hn64 h64a
     have hgxT:gx≠gT2:=fun e9=>hkgx.out (.inr (by rw[e9];simp[dZ,hab2,oB];right;right;right;right;right;right;right;right;rfl))
     have hgfT:gf≠gT2:=fun e9=>hkx.out (.inr (by rw[e9];simp[dZ,hab2,oB];right;right;right;right;right;right;right;right;rfl))
     go_upto_region 12 with (fail)
     refine pY 17 [_,_,_,.v (.slice (some ⟨gT2,oT2,none⟩) 2 Sx.cb),_,_,_,_,.v (.slice (some ⟨gT2,oT2,none⟩) 2 Sx.cb),_,.v (.agg (fI e)),.v (.agg (fI e)),_,.v (.pointer (some ⟨gT2,oT2+n*3,none⟩)),.r 14 ((aQ fun _=>True)),_,.v (.pointer (some ⟨gT2,oT2+192+n*3,none⟩))] (Cx S Sx { Sx with T:=setL Sx.T 0 n e } B b w gx gf e (fC (bF p0.ar))) aM (fun _=>⟨⟨bx,fx1⟩,fun _=>⟨hx,sx⟩,fun h=>(by cases h)⟩) (Qk aM rfl (Qk aM rfl (Qf aM b 12 rfl rfl (ag ?_ (Qk aM rfl (Qk aM rfl (Qk aM rfl (Qf aM b 12 rfl rfl (ag ?_ (Qk aM rfl (ag ?_ (ag ?_ (Qr aM (.pointer (some ⟨gT2,oT2,none⟩)) (fun ρ y W hKn=>(aU (i:=0) rfl (aA rfl hKn) (aA rfl hKn) (by decide) Tryz.underlying75 ents_size)) rfl rfl (ag ?_ (ag ?_ (Qr aM (.pointer (some ⟨gT2,oT2+192,none⟩)) (fun ρ y W hKn=>(aU (i:=1) rfl (aA rfl hKn) (aA rfl hKn) (by decide) Tryz.underlying75 ents_size)) rfl rfl (ag ?_ (aB)))))))))))))))))) (fun _=>rfl) rfl ?_
     ·intro ρ y W L hw hn hLi hLd hb hd
      refine bY aM (fun _ _ h=>h) hb ?_
      have E93:=hw 93 2 rfl
      have h2:y 2=_:=hd 2 rfl
      have hcc:=mo hb (by simp[eP,setL])
      refine aj (.slice (some ⟨gT2,oT2,none⟩) 2 Sx.cb) (ah rfl) (by simp[execOp,go_sem,bZ,E93,h2,hcc,eP,hab2,hT2]) rfl
     ·intro ρ y W L hw hn hLi hLd hb hd
      refine bY aM (fun _ _ h=>h) hb ?_
      have E98:=hw 98 7 rfl
      have h7:y 7=_:=hd 7 rfl
      have hcc:=mo hb (by simp[eP,setL])
      refine aj (.slice (some ⟨gT2,oT2,none⟩) 2 Sx.cb) (ah rfl) (by simp[execOp,go_sem,bZ,E98,h7,hcc,eP,hab2,hT2]) rfl
     ·intro ρ y W L hw hn hLi hLd hb hd
      refine bY aM (fun _ _ h=>h) hb ?_
      have E4:ρ (.tmp 4) = .pointer (some ⟨gx,0,none⟩):=(hn (.tmp 4) rfl).trans rfl
      refine aj (.agg (fI e)) (ah rfl) (aX rfl E4 hb.1.1 Tryz.underlying89 rfl entry_size3) rfl
     ·intro ρ y W L hw hn hLi hLd hb hd
      refine bY aM (fun _ _ h=>h) hb ?_
      have E4:ρ (.tmp 4) = .pointer (some ⟨gx,0,none⟩):=(hn (.tmp 4) rfl).trans rfl
      refine aj (.agg (fI e)) (ah rfl) (aX rfl E4 hb.1.1 Tryz.underlying89 rfl entry_size3) rfl
     ·intro ρ y W L hw hn hLi hLd hb hd
      refine bY aM (fun _ _ h=>h) hb ?_
      have E103:=hw 103 12 rfl
      have h12:y 12=_:=hd 12 rfl
      have E95:=hw 95 4 rfl
      have h4:y 4=_:=hd 4 rfl
      have hn9:((64:Int)≤(n:Int))=False:=eq_false (by omega)
      refine aj (.pointer (some ⟨gT2,oT2+n*3,none⟩)) (ah rfl) (by simp[execOp,go_sem,bZ,E103,h12,E95,h4,hn64,hn9]) rfl
     ·intro ρ y W L hw hn hLi hLd hb hd;have E104:=hw 104 13 rfl;have h13:y 13=_:=hd 13 rfl;have E101:=hw 101 10 rfl;have h10:y 10=_:=hd 10 rfl
      obtain⟨hm9,hs9⟩:=hb.2.1 hLi
      obtain⟨gQ,oQ,curQ,hQ,hQB,hQk,hQs,_,hQw⟩:=hm9.ent (p:=0) (n:=n) (by omega) hn64 h64a
      cases (hQ.symm.trans hab2)
      rw[Nat.zero_mul,Nat.add_zero] at hQs hQw
      exact pX (ah rfl) (vK _ _ _ rfl gT2 (oT2+n*3) _ (ik e) (E104.trans h13) (E101.trans h10) rfl curQ _ hQk (by rw[dF];exact hQs) (by kernel_rfl) (bv (eY _))) ⟨⟨hb.1.1.grown (aL _ _ _ _) (fun e9=>hgxT (Option.some.inj e9).symm),hb.1.2.grown (aL _ _ _ _) (fun e9=>hgfT (Option.some.inj e9).symm)⟩,fun h=>(by cases h),fun _=>⟨hQw _ e (hQk.setCells _ _) (aL _ _ _ _),hs9.put (aL _ _ _ _) (.inr (by simp only[dZ,hab2];simp[oB];right;right;right;right;right;right;right;right;rfl)) (fun x hx => .inl hx)⟩⟩ trivial
     ·intro ρ y W L hw hn hLi hLd hb hd
      refine bY aM (fun _ _ h=>h) hb ?_
      have E105:=hw 105 15 rfl
      have h15:y 15=_:=hd 15 rfl
      have E100:=hw 100 9 rfl
      have h9:y 9=_:=hd 9 rfl
      have hn9:((64:Int)≤(n:Int))=False:=eq_false (by omega)
      refine aj (.pointer (some ⟨gT2,oT2+192+n*3,none⟩)) (ah rfl) (by simp[execOp,go_sem,bZ,E105,h15,E100,h9,hn64,hn9]) rfl
     intro y W9 hbW9 hRW9
     have hy14:((aQ fun _=>True)).r (y 14) W9:=hRW9 14 (by decide)
     clear hRW9
     simp only[bJ,bZ,List.map_cons,List.map_nil]
     obtain⟨⟨bx9,fx9⟩,_,hq9⟩:=hbW9
     obtain⟨h9,s9⟩:=hq9 rfl
     have hT9:(setL Sx.T 0 n e).length=2:=by unfold setL;rw[List.length_set];exact hT2
     obtain⟨gR,oR',curR,hR,hRB,hRk,hRs,_,hRw⟩:=h9.ent (p:=1) (n:=n) (by show 1<(setL Sx.T 0 n e).length;omega) hn64 (by
      show (dE (setL Sx.T 0 n e) 1).length=64
      rw[lL (by omega),if_neg (by decide)]
      exact h64b)
     have hR:Sx.ab=some ⟨gR,oR',none⟩:=hR
     cases (hR.symm.trans hab2)
     rw[Nat.one_mul] at hRs hRw
     have hRw':=Lib.hid hRw
     clear hRw hq9 hx sx bx fx1
     go_wp2_with (refine aC rfl _ _ _ rfl gT2 (oT2+192+n*3) _ (ik e) rfl rfl rfl _ _ hRk (by rw[dF];exact hRs) (by kernel_rfl) (bv (eY _)) ?_)
     intro w10 hb10 hg10
     have h10:=hRw'.out w10 e hb10 hg10
     have s10:MS w b S w10 { Sx with T:=setL (setL Sx.T 0 n e) 1 n e }:=s9.put hg10 (.inr (by simp only[dZ,hab2];simp[oB];right;right;right;right;right;right;right;right;rfl)) (fun x hx => .inl hx)
     have fx10:=fx9.grown hg10 (fun e9=>hgfT (Option.some.inj e9).symm)
     clear h9 s9 bx9 fx9 hRk hb10 hg10
     go_wp2
     go_roundw
     case rel=>exact⟨n+1,_,by omega,by go_num,h10,s10,fx10,hkx,hF12⟩
     case measure=>simp[intOf];omega
  ·have hni:¬(n:Int)<64:=by omega
   go_wp2
   refine bodyPost_ret (v:=.tuple #[]) (by simp[results,go_sem,Tryz.results34]) rfl ?_
   have hK:=hN.out.1
   have hM:=hmore.out
   refine⟨Sn,rfl,hm,hs,⟨hN.out.2.1,fun p hp n g hg => ?_,hK.fi.trans hM.fi,hK.ct.trans hM.ct,hK.dk.trans hM.dk,by rw[hK.sp];exact hM.sp,hK.fl.trans hM.fs⟩⟩
   rw[hK.sp] at hp
   rw[hK.fi]
   exact hM.fm p hp n g hg
end Go.Proofs.YtjkkoeijlhfneaaGreat