import Derived.Test.YtkjobhcnlppcnaaW3
import Derived.BigRegion
import Derived.ArgAppend
set_option linter.unusedSimpArgs false
set_option linter.unusedVariables false
set_option maxHeartbeats 4000000
set_option maxRecDepth 100000
namespace Go.Proofs.Ytkjobhcnlppcnaa
open Go.RowKit Go.Maps Pw
theorem zA (l:List Cc) (a:Option Addr) (c:Nat) (w:World) (hle:l.length≤c) (hnil:a=none→c=0) (hrd:bZ w a (l.flatMap kJ)) (hb:l.length*24≤140737488355328) :
  Calls Try.prog 58 #[.slice a l.length c] w fun e w' => ∃v,e = .returned v∧Own w' w.heap.size 85 3 v l.length (l.flatMap kJ)∧Below w.heap.size w w':=by
 cases a with
 | none=>
  have h0:=hnil rfl
  have hl:l=[]:=List.eq_nil_of_length_eq_zero (by omega)
  subst hl
  subst h0
  have hq:=fun W=>Lib.run_eql_slice_nil (P:=Try.prog) W 37 _ none 0 0 0 0 Try.underlying37
  go_enter Try.func58,Try.ntmps58
  go_wp2
  go_ret
  exact⟨_,rfl,by simpa using Own.nil _ _ _ _,Below.refl _ _⟩
 | some ad=>
  have hq:=fun W=>Lib.run_eql_slice_nil (P:=Try.prog) W 37 _ (some ad) l.length c 0 0 Try.underlying37
  go_enter Try.func58,Try.ntmps58
  go_wp2_with (at_builtin;go_must (refine dQ rfl _ _ 37 rfl w.heap.size 85 (.agg #[.int .i64 0,.int .i64 0,.int .i64 0]) 3 24 Try.underlying37 cached_info rfl (by decide) _ 0 [] rfl ?own (some ad) l.length c (l.flatMap kJ) rfl (fun h=>(by cases h)) hle (nG l) ?rd (zz l) (by unfold maxLen;omega) (by simpa using hb) ?bb ?k))
  case own=>exact⟨rfl,.inr ⟨w.heap.size,0,0,#[],rfl,Nat.le_refl _,aB.new _ _ _,Nat.le_refl _,Nat.zero_le _,by simp,fun j u h=>by simp at h⟩⟩
  case rd=>exact hrd.below ((Below.refl _ _).alloc (Nat.le_refl _) _)
  case bb=>exact dS _ _
  intro v w1 hown hgr
  go_wp2
  go_ret
  exact⟨v,rfl,by simpa using hown,((Below.refl _ _).alloc (Nat.le_refl _) _).grown hgr (dS _ _) (fun k hk=>by cases hk;exact Nat.le_refl _)⟩
theorem KX.fsz {H:MH} (h:KX H.ma):MJ H.fi:=by
 have h1:(H.fi.map PF.fi).length≤1000:=h.st.1
 rw[List.length_map] at h1
 refine⟨by omega,fun p hp => ?_⟩
 have:=h.st.2 p.fi (List.mem_map.2 ⟨p,hp,rfl⟩)
 have e:p.fi.b.length=p.l.length:=rfl
 omega
theorem KX.spz {H:MH} (h:KX H.ma) {p:PS} (hp:p∈H.sp):p.ar.length≤1000∧tH p.tb:=by
 obtain⟨h1,h2⟩:=h.sp.2 p.sp (List.mem_map.2 ⟨p,hp,rfl⟩)
 exact⟨h1,fun k hk=>by have:=h2 k hk;have e:p.sp.tb[k].length=p.tb[k].length:=rfl;omega⟩
def nE (w:World) (B:Nat) (p:PS) (s:Sp):Prop:=p.sp=s∧Own w B 69 7 (.slice p.aa p.ar.length p.ac) p.ar.length (p.ar.flatMap gW)∧kL w B (iG p.ts) p.tb
theorem nE.below {w w' : World} {B:Nat} {p:PS} {s:Sp} (h:nE w B p s) (hb:Below w.heap.size w w'):nE w' B p s:=⟨h.1,h.2.1.below hb,h.2.2.below hb⟩
def Me (B:Nat) (s:Sp):iF:=⟨fun v w => ∃p,v = .agg (ny p)∧nE w B p s,fun _ _ _ hb ⟨p,h1,h2⟩=>⟨p,h1,h2.below hb⟩⟩
def ML (B:Nat) (s:Sp):iF:=⟨fun v w => ∃g p,v = .slice (some ⟨g,0,none⟩) 1 1∧bZ w (some ⟨g,0,none⟩) (kS p)∧nE w B p s,fun _ _ _ hb ⟨g,p,h1,h2,h3⟩=>⟨g,p,h1,h2.below hb,h3.below hb⟩⟩
theorem Jy {w:World} {B:Nat} {p:PS} {s:Sp} (h:nE w B p s):∀u∈kS p,u.oneCell' = true:=by
 have h1:=h.2.2.rd.one
 rw[←Array.all_toList,List.all_eq_true] at h1
 intro u hu
 simp only[kS,ny,List.mem_cons,List.not_mem_nil,or_false] at hu
 simp only[iG,List.mem_cons,List.not_mem_nil,or_false] at h1
 rcases hu with rfl|rfl|hu
 ·rfl
 ·rfl
 ·exact h1 u hu
theorem caO_size:(Try.prog.info? 37).map (·.size)=some 1:=by kernel_rfl
theorem zh {w w' : World} {B n c:Nat} {a:Option Addr} {xs:List Value} (ho:Own w B 65 10 (.slice a n c) n xs) (hg:w.grownBy w' (Value.slice a n c).ownBlock) :
  w.grownBy w' none∨∃g cs,aB w g cs 65∧B≤g∧w.grownBy w' (some g):=by
 cases hr:(Value.slice a n c).ownBlock with
 | none=>rw[hr] at hg;exact .inl hg
 | some g=>
  rw[hr] at hg
  obtain⟨cs,hb⟩:=gL ho g hr
  exact .inr ⟨g,cs,hb,ho.ge g hr,hg⟩
theorem eD {w w' : World} {B n c B' sz m:Nat} {a:Option Addr} {xs ys:List Value} {T:TypeId} {v:Value} (ho:Own w B 65 10 (.slice a n c) n xs) (hg:w.grownBy w' (Value.slice a n c).ownBlock) (h:Own w B' T sz v m ys) (hT:T≠65):Own w' B' T sz v m ys:=by
 rcases zh ho hg with h1|⟨g,cs,hb,_,h1⟩
 ·exact IZ h h1
 ·exact aj h hb (fun e=>hT e.symm) h1
theorem mJ {w w' : World} {B n c b:Nat} {a:Option Addr} {xs:List Value} {T:TypeId} {cs:Array Value} (ho:Own w B 65 10 (.slice a n c) n xs) (hg:w.grownBy w' (Value.slice a n c).ownBlock) (h:aB w b cs T) (hT:T≠65):aB w' b cs T:=by
 rcases zh ho hg with h1|⟨g,cs',hb,_,h1⟩
 ·exact h.grown h1 (fun e=>by cases e)
 ·exact h.grown h1 (fun e=>lL h hb hT (Option.some.inj e).symm)
theorem JJ {w w' : World} {B n c B' : Nat} {a:Option Addr} {xs:List Value} {v:Value} {ps:List PF} (ho:Own w B 65 10 (.slice a n c) n xs) (hg:w.grownBy w' (Value.slice a n c).ownBlock) (h:qX w B' v ps):qX w' B' v ps:=
 ⟨eD ho hg h.own (by decide),fun i p hp=>eD ho hg (h.each i p hp) (by decide),h.apart⟩
theorem rF {w w' : World} {B n c B' : Nat} {a:Option Addr} {xs:List Value} {cs:Array Value} {t:Tb} (ho:Own w B 65 10 (.slice a n c) n xs) (hg:w.grownBy w' (Value.slice a n c).ownBlock) (h:kL w B' cs t):kL w' B' cs t:=
 ⟨h.sz,fun k hk=>by obtain⟨v,h1,h2⟩:=h.own k hk;exact⟨v,h1,eD ho hg h2 (by decide)⟩,h.apart⟩
theorem mach_size:(Try.prog.info? 40).map (·.size)=some 11:=by kernel_rfl
theorem slsp_size:(Try.prog.info? 38).map (·.size)=some 1:=by kernel_rfl
theorem qZ (H:MH) (w:World) (h:qV w H) (hz:KX H.ma) :
  Calls Try.prog 13 #[.agg (bM H)] w fun r w' => ∃H' : MH,r = .returned (.agg (bM H'))∧qW w' w.heap.size H'∧H'.ma=H.ma∧(∀p∈H'.fi,∀x,oB p.a=some x→oB H'.asl≠some x)∧Below w.heap.size w w':=by
 have z1:H.m.fs.length≤1000:=hz.fs
 have z2:H.sl.length≤1000:=hz.sl
 have z3:H.sw.blocks.length≤1000:=hz.swb
 have z4:H.sw.queue.length≤1000:=hz.swq
 have z5:H.dk.blocks.length≤1000:=hz.dkb
 have z6:H.dk.queue.length≤1000:=hz.dkq
 have z7:H.ca.length≤1000:=hz.ca
 have z8:H.sp.length≤1000:=by have:=hz.sp.1;rw[nK] at this;exact this
 have zf:=hz.fsz
 go_enter Try.func13,Try.ntmps13
 go_upto_region 1 with (fail)
 refine nQ (fun W=>Code.wp _ _ _ _ W) fun w1 hb1 bx1 rx1 hs1 => ?_
 have hm1:=h.below hb1
 clear hs1
 refine kZ 7 [_,_,.r 2 ((LZ w1.heap.size H.m)),_,_,.r 5 ((ic w1.heap.size 3 1 H.sl.length (H.sl.map dE))),_] (fun W=>Below w1.heap.size w1 W) gu (Below.refl _ _) (Yf gu w.heap.size 0 rfl rfl (Yr gu (.agg #[.slice H.af H.m.fs.length H.cf,.int .i64 H.m.hand]) (fun ρ y W hb hKn=>(bN rfl (az rfl hKn) (bG (bx1.ext hb) 0 2) Try.underlying27 rfl (by kernel_rfl))) rfl rfl (all_cons ?_ (Yf gu w.heap.size 2 rfl rfl (Yc gu (.slice H.asl H.sl.length H.csl) (fun W hb=>by simp[(bx1.ext hb).cell,bM]) rfl rfl rfl rfl (all_cons ?_ (Yf gu w.heap.size 0 rfl rfl (all_nil)))))))) (fun _=>rfl) rfl ?_
 ·intro ρ y W hw hn hb hd
  refine lS gu hb ((LZ w1.heap.size H.m)) (fun _ _ h=>h) ?_
  have E7:=hw 7 1 rfl
  have h1:y 1 = .agg #[.slice H.af H.m.fs.length H.cf,.int .i64 H.m.hand]:=hd 1 rfl
  have EF:∀f,ρ (.func f) = .func (.func f) #[] #[]:=fun f=>hn (.func f) trivial
  refine aG _ _ (ag rfl) (aK rfl (EF _) Try.func54 (by kernel_rfl) (by kernel_rfl) (by simp only[List.map_toArray,List.map_cons,List.map_nil,E7,h1,EF];rfl)) ?_
  refine (AL H.m _ _ W (hm1.below hb).fr (by omega)).mono ?_
  rintro r w3 ⟨u,rfl,ho,hb1⟩
  exact⟨_,rfl,hb1,u,rfl,ho.mono hb.size⟩
 ·intro ρ y W hw hn hb hd
  refine lS gu hb ((ic w1.heap.size 3 1 H.sl.length (H.sl.map dE))) (fun _ _ h=>h) ?_
  have E10:=hw 10 4 rfl
  have h4:y 4 = .slice H.asl H.sl.length H.csl:=hd 4 rfl
  have EF:∀f,ρ (.func f) = .func (.func f) #[] #[]:=fun f=>hn (.func f) trivial
  refine aG _ _ (ag rfl) (aK rfl (EF _) Try.func55 (by kernel_rfl) (by kernel_rfl) (by simp only[List.map_toArray,List.map_cons,List.map_nil,E10,h4,EF];rfl)) ?_
  have hs:=(hm1.below hb).sl
  refine (uy H.sl _ _ W hs.le hs.nl hs.rd (by omega)).mono ?_
  rintro r w3 ⟨u,rfl,ho,hb1⟩
  exact⟨_,rfl,hb1,ho.mono hb.size⟩
 intro y w2 hbw2 hRw2
 replace hbw2:Below w1.heap.size w1 w2:=hbw2
 have hy2:((LZ w1.heap.size H.m)).r (y 2) w2:=hRw2 2 (by decide)
 have hy5:((ic w1.heap.size 3 1 H.sl.length (H.sl.map dE))).r (y 5) w2:=hRw2 5 (by decide)
 clear hRw2
 simp only[strip,bR,List.map_cons,List.map_nil]
 obtain⟨u1,hu1,ho1⟩:=hy2
 have ho2:Own w2 w1.heap.size 3 1 (y 5) H.sl.length (H.sl.map dE):=hy5
 obtain⟨a1,c1,rfl,_⟩:=ho1.rd
 obtain⟨a2,c2,hu2,_⟩:=Own.rd ho2
 rw[hu2] at ho2
 rw[hu1,hu2]
 have bx2:=bx1.ext hbw2
 have rx2:=rx1.ext hbw2
 have hbr2:=ae hb1 hbw2
 have hm2:=hm1.below hbw2
 have hw1:=Lib.hid hb1.size
 have hlt2:=rx2.lt
 clear hbw2 bx1 rx1 hm1 hu1 hu2 hy5
 go_wp2_with (refine eG rfl _ _ _ rfl w.heap.size 0 #[.slice a1 H.m.fs.length c1,.int .i64 H.m.hand] rfl rfl _ _ bx2 (by show 0+2≤11;decide) mem_size (kW _ _ _ _) ?_)
 intro w3 bx3 hg3
 have ho13:=aj ho1 bx2 (by decide) hg3
 have ho23:=aj ho2 bx2 (by decide) hg3
 have hbr3:=hbr2.grown hg3 hbr2.size (fun k hk=>by cases hk;exact Nat.le_refl _)
 have rx3:=rx2.grown hg3 (fun e=>by have:=Option.some.inj e;omega)
 have bx3' : aB w3 w.heap.size (bM { H with af:=a1,cf:=c1 }) 40:=bx3
 clear ho1 ho2 bx2 rx2 hm2 hg3 bx3 hbr2
 go_wp2_with (refine ay rfl _ _ _ rfl w.heap.size 2 _ [.slice a2 H.sl.length c2] rfl rfl rfl _ _ bx3' (by show 2+1≤11;decide) slots_size (fun u hu=>by cases List.mem_singleton.1 hu;rfl) ?_)
 intro w4 bx4 hg4
 have ho14:=aj ho13 bx3' (by decide) hg4
 have ho24:=aj ho23 bx3' (by decide) hg4
 have hbr4:=hbr3.grown hg4 hbr3.size (fun k hk=>by cases hk;exact Nat.le_refl _)
 have rx4:=rx3.grown hg4 (fun e=>by have:=Option.some.inj e;omega)
 have bx4' : aB w4 w.heap.size (bM { H with af:=a1,cf:=c1,asl:=a2,csl:=c2 }) 40:=bx4
 have hm4:=h.below hbr4
 clear ho13 ho23 bx3' rx3 hg4 bx4 hbr3
 obtain⟨H4,hH4⟩:∃H4:MH,Hid (H4 = { H with af:=a1,cf:=c1,asl:=a2,csl:=c2 }):=⟨_,Lib.hid rfl⟩
 go_upto_region 2 with (fail)
 refine kZ 10 [_,_,.r 2 ((Bi w4.heap.size H.sw)),_,_,.r 5 ((Bi w4.heap.size H.dk)),_,_,.r 8 ((Ls w4.heap.size (dW H.fi H.ct))),_] (fun W=>Below w4.heap.size w4 W) gu (Below.refl _ _) (Yf gu w.heap.size 3 rfl rfl (Yr gu (.agg #[.slice H.wb H.sw.blocks.length H.cwb,.slice H.wq H.sw.queue.length H.cwq]) (fun ρ y W hb hKn=>(bN rfl (az rfl hKn) (bG (bx4'.ext hb) 3 2) Try.underlying33 rfl (by kernel_rfl))) rfl rfl (all_cons ?_ (Yf gu w.heap.size 5 rfl rfl (Yr gu (.agg #[.slice H.db H.dk.blocks.length H.cdb,.slice H.dq H.dk.queue.length H.cdq]) (fun ρ y W hb hKn=>(bN rfl (az rfl hKn) (bG (bx4'.ext hb) 5 2) Try.underlying33 rfl (by kernel_rfl))) rfl rfl (all_cons ?_ (Yf gu w.heap.size 7 rfl rfl (Yr gu (.agg #[.slice H.ai H.fi.length H.ci,.int .i64 H.ct]) (fun ρ y W hb hKn=>(bN rfl (az rfl hKn) (bG (bx4'.ext hb) 7 2) Try.underlying36 rfl (by kernel_rfl))) rfl rfl (all_cons ?_ (Yf gu w.heap.size 3 rfl rfl (all_nil))))))))))) (fun _=>rfl) rfl ?_
 ·intro ρ y W hw hn hb hd
  refine lS gu hb ((Bi w4.heap.size H.sw)) (fun _ _ h=>h) ?_
  have E15:=hw 15 1 rfl
  have h1:y 1 = .agg #[.slice H.wb H.sw.blocks.length H.cwb,.slice H.wq H.sw.queue.length H.cwq]:=hd 1 rfl
  have EF:∀f,ρ (.func f) = .func (.func f) #[] #[]:=fun f=>hn (.func f) trivial
  refine aG _ _ (ag rfl) (aK rfl (EF _) Try.func56 (by kernel_rfl) (by kernel_rfl) (by simp only[List.map_toArray,List.map_cons,List.map_nil,E15,h1,EF];rfl)) ?_
  refine (BD H.sw _ _ _ _ W (hm4.below hb).sw (by omega) (by omega)).mono ?_
  rintro r w3 ⟨u,v,rfl,ho,hb1⟩
  exact⟨_,rfl,hb1,u,v,rfl,ho.mono hb.size⟩
 ·intro ρ y W hw hn hb hd
  refine lS gu hb ((Bi w4.heap.size H.dk)) (fun _ _ h=>h) ?_
  have E18:=hw 18 4 rfl
  have h4:y 4 = .agg #[.slice H.db H.dk.blocks.length H.cdb,.slice H.dq H.dk.queue.length H.cdq]:=hd 4 rfl
  have EF:∀f,ρ (.func f) = .func (.func f) #[] #[]:=fun f=>hn (.func f) trivial
  refine aG _ _ (ag rfl) (aK rfl (EF _) Try.func56 (by kernel_rfl) (by kernel_rfl) (by simp only[List.map_toArray,List.map_cons,List.map_nil,E18,h4,EF];rfl)) ?_
  refine (BD H.dk _ _ _ _ W (hm4.below hb).dk (by omega) (by omega)).mono ?_
  rintro r w3 ⟨u,v,rfl,ho,hb1⟩
  exact⟨_,rfl,hb1,u,v,rfl,ho.mono hb.size⟩
 ·intro ρ y W hw hn hb hd
  refine lS gu hb ((Ls w4.heap.size (dW H.fi H.ct))) (fun _ _ h=>h) ?_
  have E21:=hw 21 7 rfl
  have h7:y 7 = .agg #[.slice H.ai H.fi.length H.ci,.int .i64 H.ct]:=hd 7 rfl
  have EF:∀f,ρ (.func f) = .func (.func f) #[] #[]:=fun f=>hn (.func f) trivial
  refine aG _ _ (ag rfl) (aK rfl (EF _) Try.func57 (by kernel_rfl) (by kernel_rfl) (by simp only[List.map_toArray,List.map_cons,List.map_nil,E21,h7,EF];rfl)) ?_
  refine (Jo H.fi H.ct _ _ W (hm4.below hb).st zf).mono ?_
  rintro r w3 ⟨u,ps,rfl,ho,he,hb1⟩
  exact⟨_,rfl,hb1,u,ps,_,rfl,ho.mono hb.size,by unfold dW;rw[he]⟩
 intro y w5 hbw5 hRw5
 replace hbw5:Below w4.heap.size w4 w5:=hbw5
 have hy2:((Bi w4.heap.size H.sw)).r (y 2) w5:=hRw5 2 (by decide)
 have hy5:((Bi w4.heap.size H.dk)).r (y 5) w5:=hRw5 5 (by decide)
 have hy8:((Ls w4.heap.size (dW H.fi H.ct))).r (y 8) w5:=hRw5 8 (by decide)
 clear hRw5
 simp only[strip,bR,List.map_cons,List.map_nil]
 obtain⟨ub,uq,hu3,ho3⟩:=hy2
 obtain⟨vb,vq,hu4,ho4⟩:=hy5
 obtain⟨us,ps,ks,hu5,ho5,hst⟩:=hy8
 have hks : -9223372036854775808≤ks∧ks≤9223372036854775807:=by have e:ks=H.ct:=congrArg St.count hst;rw[e];exact h.c64
 obtain⟨ab,cb,rfl,_⟩:=ho3.b.rd
 obtain⟨aq,cq,rfl,_⟩:=ho3.q.rd
 obtain⟨db,eb,rfl,_⟩:=ho4.b.rd
 obtain⟨dq,eq,rfl,_⟩:=ho4.q.rd
 obtain⟨as_,cs,rfl,_⟩:=ho5.rd
 rw[hu3,hu4,hu5]
 have hn2:Hid (∀p∈ps,∀x,oB p.a=some x→oB a2≠some x):=Lib.hid (fun p hp x hx e=>by
  have h1:=(fe ho24 e).2.choose_spec.lt
  obtain⟨i,hi,rfl⟩:=List.mem_iff_getElem.1 hp
  have h2:=(fe (ho5.each i _ (List.getElem?_eq_getElem hi)) hx).1
  omega)
 have bx5:=bx4'.ext hbw5
 have rx5:=rx4.ext hbw5
 have hbr5:=ae hbr4 hbw5
 have ho15:=ho14.below hbw5
 have ho25:=ho24.below hbw5
 have hw14:=Lib.hid hbr4.size
 clear hbw5 bx4' rx4 hm4 hu3 hu4 hu5 ho14 ho24 hbr4
 go_wp2_with (refine eG rfl _ _ _ rfl w.heap.size 3 #[.slice ab H.sw.blocks.length cb,.slice aq H.sw.queue.length cq] rfl rfl _ _ bx5 (by show 3+2≤11;decide) disk_size (Gm _ _ _ _ _ _) ?_)
 intro w6 bx6 hg6
 have hbr6:=hbr5.grown hg6 hbr5.size (fun k hk=>by cases hk;exact Nat.le_refl _)
 have rx6:=rx5.grown hg6 (fun e=>by have:=Option.some.inj e;omega)
 have p1:=aj ho15 bx5 (by decide) hg6
 have p2:=aj ho25 bx5 (by decide) hg6
 have p3:=ho3.keep bx5 (by decide) (by decide) hg6
 have p4:=ho4.keep bx5 (by decide) (by decide) hg6
 have p5:=ho5.keep bx5 (by decide) (by decide) hg6
 clear bx5 rx5 hg6 ho15 ho25 ho3 ho4 ho5 hbr5
 go_wp2_with (refine eG rfl _ _ _ rfl w.heap.size 5 #[.slice db H.dk.blocks.length eb,.slice dq H.dk.queue.length eq] rfl rfl _ _ bx6 (by show 5+2≤11;decide) disk_size (Gm _ _ _ _ _ _) ?_)
 intro w7 bx7 hg7
 have hbr7:=hbr6.grown hg7 hbr6.size (fun k hk=>by cases hk;exact Nat.le_refl _)
 have rx7:=rx6.grown hg7 (fun e=>by have:=Option.some.inj e;omega)
 have q1:=aj p1 bx6 (by decide) hg7
 have q2:=aj p2 bx6 (by decide) hg7
 have q3:=p3.keep bx6 (by decide) (by decide) hg7
 have q4:=p4.keep bx6 (by decide) (by decide) hg7
 have q5:=p5.keep bx6 (by decide) (by decide) hg7
 clear bx6 rx6 hg7 p1 p2 p3 p4 p5 hbr6
 go_wp2_with (refine eG rfl _ _ _ rfl w.heap.size 7 #[.slice as_ ps.length cs,.int .i64 ks] rfl rfl _ _ bx7 (by show 7+2≤11;decide) store_size (Ig _ _ _ _) ?_)
 intro w8 bx8 hg8
 have hbr8:=hbr7.grown hg8 hbr7.size (fun k hk=>by cases hk;exact Nat.le_refl _)
 have rx8:=rx7.grown hg8 (fun e=>by have:=Option.some.inj e;omega)
 have p1:=aj q1 bx7 (by decide) hg8
 have p2:=aj q2 bx7 (by decide) hg8
 have p3:=q3.keep bx7 (by decide) (by decide) hg8
 have p4:=q4.keep bx7 (by decide) (by decide) hg8
 have p5:=q5.keep bx7 (by decide) (by decide) hg8
 obtain⟨H8,hH8⟩:∃H8:MH,Hid (H8 = { H with af:=a1,cf:=c1,asl:=a2,csl:=c2,wb:=ab,cwb:=cb,wq:=aq,cwq:=cq,db:=db,cdb:=eb,dq:=dq,cdq:=eq,ai:=as_,ci:=cs,fi:=ps,ct:=ks }):=⟨_,Lib.hid rfl⟩
 have bx8' : aB w8 w.heap.size (bM H8) 40:=by rw[hH8.out];exact bx8
 have hm8:=h.below hbr8
 clear bx7 rx7 hg8 bx8 q1 q2 q3 q4 q5 hbr7
 have hcb:w8.cell? ⟨w.heap.size,9,none⟩=some (.slice H.ac H.ca.length H.cc):=by rw[bx8'.cell,hH8.out];rfl
 go_wp2_with fail
 refine (zA H.ca H.ac H.cc _ hm8.ca.le hm8.ca.nl hm8.ca.rd (by omega)).mono ?_
 rintro r w9 ⟨v9,rfl,ho9,hb9⟩
 obtain⟨a6,c6,rfl,_⟩:=ho9.rd
 have bx9:=bx8'.ext hb9
 have rx9:=rx8.ext hb9
 have hbr9:=ae hbr8 hb9
 have q1:=p1.below hb9
 have q2:=p2.below hb9
 have q3:=p3.below hb9
 have q4:=p4.below hb9
 have q5:=p5.below hb9
 have hw8:=Lib.hid hbr8.size
 clear hcb bx8' rx8 hm8 p1 p2 p3 p4 p5 hb9 hbr8
 go_wp2_with (refine ay rfl _ _ _ rfl w.heap.size 9 _ [.slice a6 H.ca.length c6] rfl rfl rfl _ _ bx9 (by show 9+1≤11;decide) caO_size (fun u hu=>by cases List.mem_singleton.1 hu;rfl) ?_)
 intro w10 bx10 hg10
 have hbr10:=hbr9.grown hg10 hbr9.size (fun k hk=>by cases hk;exact Nat.le_refl _)
 have rx10:=rx9.grown hg10 (fun e=>by have:=Option.some.inj e;omega)
 have p1:=(aj q1 bx9 (by decide) hg10).mono hw1.out
 have p2:=(aj q2 bx9 (by decide) hg10).mono hw1.out
 have p3:=(q3.keep bx9 (by decide) (by decide) hg10).mono hw14.out
 have p4:=(q4.keep bx9 (by decide) (by decide) hg10).mono hw14.out
 have p5:=(q5.keep bx9 (by decide) (by decide) hg10).mono hw14.out
 have p6:=(aj ho9 bx9 (by decide) hg10).mono hw8.out
 obtain⟨G,hG⟩:∃G:MH,Hid (G = { H with af:=a1,cf:=c1,asl:=a2,csl:=c2,wb:=ab,cwb:=cb,wq:=aq,cwq:=cq,db:=db,cdb:=eb,dq:=dq,cdq:=eq,ai:=as_,ci:=cs,fi:=ps,ct:=ks,ac:=a6,cc:=c6 }):=⟨_,Lib.hid rfl⟩
 have bxG:aB w10 w.heap.size (bM G) 40:=by rw[hG.out];rw[hH8.out] at bx10;exact bx10
 clear bx9 rx9 hg10 bx10 q1 q2 q3 q4 q5 ho9 hbr9
 have hGap:Hid (G.ap=H.ap∧G.sp=H.sp∧G.cp=H.cp):=Lib.hid (by rw[hG.out];exact⟨rfl,rfl,rfl⟩)
 have hcb:w10.cell? ⟨w.heap.size,10,none⟩=some (.slice H.ap H.sp.length H.cp):=by rw[bxG.cell,hG.out];rfl
 have hm10:=h.below hbr10
 have ho0:Own w10 w.heap.size 65 10 (.slice none 0 0) ([]:List PS).length (([]:List PS).flatMap kS):=by simpa using Own.nil _ _ _ _
 go_upto_region 6 with (fail)
 clear hcb hm10
 go_loopw [3,33] (fun s3 i wr => ∃(q:Nat) (qs:List PS) (av:Option Addr) (cv:Nat),q≤H.sp.length∧i = .int .i64 q∧s3 = .slice av qs.length cv∧Below w.heap.size w wr∧aB wr w.heap.size (bM G) 40∧aB wr (w.heap.size+1) _ 40 ∧
  Own wr w.heap.size 59 13 (.slice a1 H.m.fs.length c1) H.m.fs.length (H.m.fs.flatMap ng)∧Own wr w.heap.size 3 1 (.slice a2 H.sl.length c2) H.sl.length (H.sl.map dE)∧jO wr w.heap.size (.slice ab H.sw.blocks.length cb) (.slice aq H.sw.queue.length cq) H.sw∧jO wr w.heap.size (.slice db H.dk.blocks.length eb) (.slice dq H.dk.queue.length eq) H.dk ∧
  qX wr w.heap.size (.slice as_ ps.length cs) ps∧Own wr w.heap.size 85 3 (.slice a6 H.ca.length c6) H.ca.length (H.ca.flatMap kJ)∧Own wr w.heap.size 65 10 (.slice av qs.length cv) qs.length (qs.flatMap kS)∧(∀p∈qs,nE wr w.heap.size p p.sp∧tH p.tb)∧Hid (qs.map PS.sp=(H.sp.take q).map PS.sp)) (fun _ i _=>H.sp.length-(intOf i).toNat)
 case atStart=>exact⟨0,[],none,0,Nat.zero_le _,rfl,rfl,hbr10,bxG,rx10,p1,p2,p3,p4,p5,p6,ho0,fun p hp=>(by simp at hp),Lib.hid rfl⟩
 case round=>
  clear hbr10 bxG rx10 p1 p2 p3 p4 p5 p6 ho0
  obtain⟨q,qs,av,cv,hq,rfl,rfl,hbr,bx,rx,p1,p2,p3,p4,p5,p6,ho,hps,hqs⟩:=hrel
  have hql:qs.length≤q:=by
   have:=congrArg List.length hqs.out
   rw[List.length_map,List.length_map,List.length_take] at this
   omega
  by_cases hql2:q<H.sp.length
  ·obtain⟨bs,os,P,hap,hP,hrd⟩:=lC (h.below hbr).sp.rd q hql2
   have hgood:=nz (h.below hbr) hP
   have hPm:=List.mem_of_getElem? hP
   obtain⟨hz1,hz2⟩:=hz.spz hPm
   have hqi:(q:Int)<(H.sp.length:Int):=by omega
   have hqs2:Hid (qs.map PS.sp++[P.sp]=(H.sp.take (q+1)).map PS.sp):=Lib.hid (by rw[take_at hP,List.map_append,hqs.out];rfl)
   rw[hap]
   have hps1:(ny P).all (·.oneCell')=true:=by
    rw[←Array.all_toList,List.all_eq_true];exact hgood.one
   go_wp2_with (first | (refine ak _ _ rfl bs (os+q*10) rfl rfl _ hrd _ Try.underlying65 rfl space_size ?_) | (refine aD rfl _ _ _ rfl (ny P) rfl rfl rfl space_size hps1 ?_))
   intro w11 hb11 fx
   have hbr11:=ae hbr hb11
   have hg11:=hgood.below hb11
   have bx11:=bx.ext hb11
   have rx11:=rx.ext hb11
   have q1:=p1.below hb11
   have q2:=p2.below hb11
   have q3:=p3.below hb11
   have q4:=p4.below hb11
   have q5:=p5.below hb11
   have q6:=p6.below hb11
   have hO:=ho.below hb11
   have hps11:∀p∈qs,nE w11 w.heap.size p p.sp∧tH p.tb:=fun p hp=>⟨(hps p hp).1.below hb11,(hps p hp).2⟩
   have hgw:=Lib.hid hbr11.size
   clear hbr hgood bx rx p1 p2 p3 p4 p5 p6 ho hps hb11 hrd hps1 hP
   go_upto_region 8 with (fail)
   refine DU 0 3 (.slice av qs.length cv) (by kernel_rfl) (by kernel_rfl) rfl fun ops0 hops0 => ?_
   simp only[freedL,sF] at hops0
   subst hops0
   refine yw 11 12 [] [nN (.slice av qs.length cv),nN (.pointer (some ⟨wr.heap.size,0,none⟩)),nN (.bool P.lv),nN (.pointer (some ⟨wr.heap.size,1,none⟩)),nN (.slice P.aa P.ar.length P.ac),(ic w11.heap.size 69 7 P.ar.length (P.ar.flatMap gW)),nN (.pointer (some ⟨wr.heap.size,2,none⟩)),nN (.agg (iG P.ts)),(Ak w11.heap.size P.tb),(Me w11.heap.size P.sp),(ML w11.heap.size P.sp)] (by kernel_rfl) (by kernel_rfl) (by kernel_rfl) (by kernel_rfl) (by kernel_rfl) (by decide) (Nat.le_of_ble_eq_true (by kernel_rfl)) _ rfl (by kernel_rfl) (all_cons ?_ (all_cons ?_ (all_cons ?_ (all_cons ?_ (all_cons ?_ (all_cons ?_ (all_cons ?_ (all_cons ?_ (all_cons ?_ (all_cons ?_ (all_cons ?_ (all_nil)))))))))))) (all_nil) rfl ?_
   ·refine aW rfl ?_
    intro ρ y W hw hn hb hd
    refine ah (.slice av qs.length cv) (ag rfl) (run_move (.inl rfl) (hn (.const _) trivial)) rfl
   ·refine aW rfl ?_
    intro ρ y W hw hn hb hd
    have E5:ρ (.tmp 5) = .pointer (some ⟨wr.heap.size,0,none⟩):=(hn (.tmp 5) rfl).trans rfl
    refine ah (.pointer (some ⟨wr.heap.size,0,none⟩)) (ag rfl) (by simp[execOp,go_sem,E5]) rfl
   ·refine aW rfl ?_
    intro ρ y W hw hn hb hd
    have E38:=hw 38 1 rfl
    have h1:y 1 = .pointer (some ⟨wr.heap.size,0,none⟩):=hd 1 rfl
    refine ah (.bool P.lv) (ag rfl) (by simp[execOp,go_sem,E38,h1,(fx.ext hb).cell,ny]) rfl
   ·refine aW rfl ?_
    intro ρ y W hw hn hb hd
    have E5:ρ (.tmp 5) = .pointer (some ⟨wr.heap.size,0,none⟩):=(hn (.tmp 5) rfl).trans rfl
    refine ah (.pointer (some ⟨wr.heap.size,1,none⟩)) (ag rfl) (by simp[execOp,go_sem,E5]) rfl
   ·refine aW rfl ?_
    intro ρ y W hw hn hb hd
    have E40:=hw 40 3 rfl
    have h3:y 3 = .pointer (some ⟨wr.heap.size,1,none⟩):=hd 3 rfl
    refine ah (.slice P.aa P.ar.length P.ac) (ag rfl) (by simp[execOp,go_sem,E40,h3,(fx.ext hb).cell,ny]) rfl
   ·refine aW rfl ?_
    intro ρ y W hw hn hb hd
    have E41:=hw 41 4 rfl
    have h4:y 4 = .slice P.aa P.ar.length P.ac:=hd 4 rfl
    have EF:∀f,ρ (.func f) = .func (.func f) #[] #[]:=fun f=>hn (.func f) trivial
    refine aG _ _ (ag rfl) (aK rfl (EF _) Try.func59 (by kernel_rfl) (by kernel_rfl) (by simp only[List.map_toArray,List.map_cons,List.map_nil,E41,h4,EF];rfl)) ?_
    have hA:=(hg11.below hb).ars
    refine (uF P.ar P.aa P.ac W hA.le hA.nl hA.rd (by omega)).mono ?_
    rintro e w1 ⟨u,rfl,ho,hb1⟩
    exact⟨u,rfl,hb1,ho.mono hb.size⟩
   ·refine aW rfl ?_
    intro ρ y W hw hn hb hd
    have E5:ρ (.tmp 5) = .pointer (some ⟨wr.heap.size,0,none⟩):=(hn (.tmp 5) rfl).trans rfl
    refine ah (.pointer (some ⟨wr.heap.size,2,none⟩)) (ag rfl) (by simp[execOp,go_sem,E5]) rfl
   ·refine aW rfl ?_
    intro ρ y W hw hn hb hd
    have E43:=hw 43 6 rfl
    have h6:y 6 = .pointer (some ⟨wr.heap.size,2,none⟩):=hd 6 rfl
    refine ah (.agg (iG P.ts)) (ag rfl) (bN rfl (E43.trans h6) (bG (fx.ext hb) 2 8) Try.underlying63 tab_agg tab_size) rfl
   ·refine aW rfl ?_
    intro ρ y W hw hn hb hd
    have E44:=hw 44 7 rfl
    have h7:y 7 = .agg (iG P.ts):=hd 7 rfl
    have EF:∀f,ρ (.func f) = .func (.func f) #[] #[]:=fun f=>hn (.func f) trivial
    refine aG _ _ (ag rfl) (aK rfl (EF _) Try.func60 (by kernel_rfl) (by kernel_rfl) (by simp only[List.map_toArray,List.map_cons,List.map_nil,E44,h7,EF];rfl)) ?_
    refine (zV P.tb (iG P.ts) W (hg11.below hb).tb hz2).mono ?_
    rintro e w1 ⟨u,rfl,ho,hb1⟩
    exact⟨_,rfl,hb1,u,rfl,ho.mono hb.size⟩
   ·refine aW rfl ?_
    intro ρ y W hw hn hb hd
    have E39:=hw 39 2 rfl
    have h2:y 2 = .bool P.lv:=hd 2 rfl
    have E42:=hw 42 5 rfl
    have h5:((ic w11.heap.size 69 7 P.ar.length (P.ar.flatMap gW))).r (y 5) W:=hd 5 rfl
    have E45:=hw 45 8 rfl
    have h8:((Ak w11.heap.size P.tb)).r (y 8) W:=hd 8 rfl
    obtain⟨x5,c5,e5,_⟩:=Own.rd h5
    obtain⟨cs8,e8,ho8⟩:=h8
    obtain⟨v8,rfl⟩:=Jb ho8.sz
    have hO5:Own W w11.heap.size 69 7 (.slice x5 P.ar.length c5) P.ar.length (P.ar.flatMap gW):=by rw[←e5];exact h5
    refine ah (.agg (ny ⟨P.lv,x5,c5,P.ar,v8,P.tb⟩)) (ag rfl) (by simp[execOp,go_sem,E39.trans h2,E42,e5,E45,e8,iG,ny]) ?_
    exact⟨⟨P.lv,x5,c5,P.ar,v8,P.tb⟩,rfl,rfl,hO5,ho8⟩
   ·refine aW rfl ?_
    intro ρ y W hw hn hb hd
    have E46:=hw 46 9 rfl
    have h9:((Me w11.heap.size P.sp)).r (y 9) W:=hd 9 rfl
    obtain⟨p9,e9,hg9⟩:=h9
    refine jb (.slice (some ⟨W.heap.size,0,none⟩) 1 1) (ag rfl) (by simp[execOp,go_sem,E46,e9,ny]) ((Below.refl _ _).alloc (Nat.le_refl _) (.cells (ny p9) 65)) ?_
    exact⟨_,p9,rfl,bZ.new _ _ _,hg9.below ((Below.refl _ _).alloc (Nat.le_refl _) _)⟩
   intro ρ y WA o ho hw hn hV hbWA hRWA
   cases ho
   have hy0:y 0 = .slice av qs.length cv:=hRWA 0 (by decide)
   have hy1:y 1 = .pointer (some ⟨wr.heap.size,0,none⟩):=hRWA 1 (by decide)
   have hy2:y 2 = .bool P.lv:=hRWA 2 (by decide)
   have hy3:y 3 = .pointer (some ⟨wr.heap.size,1,none⟩):=hRWA 3 (by decide)
   have hy4:y 4 = .slice P.aa P.ar.length P.ac:=hRWA 4 (by decide)
   have hy5:((ic w11.heap.size 69 7 P.ar.length (P.ar.flatMap gW))).r (y 5) WA:=hRWA 5 (by decide)
   have hy6:y 6 = .pointer (some ⟨wr.heap.size,2,none⟩):=hRWA 6 (by decide)
   have hy7:y 7 = .agg (iG P.ts):=hRWA 7 (by decide)
   have hy8:((Ak w11.heap.size P.tb)).r (y 8) WA:=hRWA 8 (by decide)
   have hy9:((Me w11.heap.size P.sp)).r (y 9) WA:=hRWA 9 (by decide)
   have hy10:((ML w11.heap.size P.sp)).r (y 10) WA:=hRWA 10 (by decide)
   have E37:=hw 37 0 rfl
   rw[hy0] at E37
   have E47:=hw 47 10 rfl
   have EC:∀v,ρ (.const v)=v:=fun v=>hn (.const v) trivial
   have EF:∀f,ρ (.func f) = .func (.func f) #[] #[]:=fun f=>hn (.func f) trivial
   obtain⟨g10,p10,e10,hrd10,hg10⟩:=hy10
   refine yV (ag rfl) (gD (.tmp 37) (.tmp 47) 38 rfl w.heap.size 65 _ 10 224 Try.underlying38 space_info rfl (by decide) _ _ _ E37 (hO.below hbWA) _ 1 1 (kS p10) (E47.trans e10) (fun e=>by cases e) (Nat.le_refl _) rfl hrd10 (Jy hg10) (by unfold maxLen;omega) (by omega) (Nat.le_trans hgw.out hbWA.size)) ?_
   rintro v2 w13 ⟨hown13,hgr13,hcase13⟩
   clear hRWA hw hn hV
   simp only[lay,Nat.reduceAdd,Nat.reduceLT,Nat.reduceEqDiff,reduceIte,decide_true,decide_false,if_true,Bool.false_eq_true,if_false,List.setIfInBounds_toArray,List.set_cons_zero,List.set_cons_succ,List.drop_succ_cons,List.drop_zero,List.drop_nil,hy0,hy1,hy2,hy3,hy4,hy6,hy7]
   clear hy0 hy1 hy2 hy3 hy4 hy6 hy7
   have hOA:=hO.below hbWA
   have hbrA:=ae hbr11 hbWA
   have hbr13:Below w.heap.size w w13:=hbrA.grown hgr13 hbrA.size (fun k hk=>hOA.ge k hk)
   have hown13' : Own w13 w.heap.size 65 10 v2 (qs++[p10]).length ((qs++[p10]).flatMap kS):=by
    rw[List.length_append,List.flatMap_append];simpa using hown13
   obtain⟨a13,c13,rfl,_⟩:=hown13'.rd
   have r1:=eD hOA hgr13 (q1.below hbWA) (by decide)
   have r2:=eD hOA hgr13 (q2.below hbWA) (by decide)
   have r3:jO w13 w.heap.size _ _ H.sw:=⟨eD hOA hgr13 (q3.below hbWA).b (by decide),eD hOA hgr13 (q3.below hbWA).q (by decide)⟩
   have r4:jO w13 w.heap.size _ _ H.dk:=⟨eD hOA hgr13 (q4.below hbWA).b (by decide),eD hOA hgr13 (q4.below hbWA).q (by decide)⟩
   have r5:=JJ hOA hgr13 (q5.below hbWA)
   have r6:=eD hOA hgr13 (q6.below hbWA) (by decide)
   have bx13:=mJ hOA hgr13 (bx11.ext hbWA) (by decide)
   have rx13:=mJ hOA hgr13 (rx11.ext hbWA) (by decide)
   have hps13:∀p∈qs++[p10],nE w13 w.heap.size p p.sp∧tH p.tb:=fun p hp=>by
    rcases List.mem_append.1 hp with hp|hp
    ·have h1:=(hps11 p hp).1.below hbWA
     exact⟨⟨rfl,eD hOA hgr13 h1.2.1 (by decide),rF hOA hgr13 h1.2.2⟩,(hps11 p hp).2⟩
    ·rw[List.mem_singleton.1 hp]
     refine⟨⟨rfl,(eD hOA hgr13 hg10.2.1 (by decide)).mono hgw.out,(rF hOA hgr13 hg10.2.2).mono hgw.out⟩,?_⟩
     have e:p10.tb=P.tb:=congrArg Sp.tb hg10.1
     rw[e];exact hz2
   have hqs3:Hid ((qs++[p10]).map PS.sp=(H.sp.take (q+1)).map PS.sp):=Lib.hid (by rw[List.map_append,←hqs2.out,←hg10.1];rfl)
   clear hO hOA hbrA hbWA hown13 hgr13 hcase13 hg10 hrd10 fx hg11 bx11 rx11 q1 q2 q3 q4 q5 q6 hps11
   go_wp2
   go_roundw
   case rel=>exact⟨q+1,_,_,_,by omega,by go_num,rfl,hbr13,bx13,rx13,r1,r2,r3,r4,r5,r6,hown13',hps13,hqs3⟩
   case measure=>simp[intOf];omega
  ·have hqi:¬(q:Int)<(H.sp.length:Int):=by omega
   rw[List.take_of_length_le (by omega)] at hqs
   go_wp2_with (refine ay rfl _ _ _ rfl w.heap.size 10 _ [.slice av qs.length cv] rfl rfl rfl _ _ bx (by show 10+1≤11;decide) slsp_size (fun u hu=>by cases List.mem_singleton.1 hu;rfl) ?_)
   intro w11 bx11 hg11
   have hbr11:=hbr.grown hg11 hbr.size (fun k hk=>by cases hk;exact Nat.le_refl _)
   have rx11:=rx.grown hg11 (fun e=>by have:=Option.some.inj e;omega)
   obtain⟨K,hK⟩:∃K:MH,Hid (K = { G with ap:=av,cp:=cv,sp:=qs }):=⟨_,Lib.hid rfl⟩
   have bxK:aB w11 w.heap.size (bM K) 40:=by rw[hK.out];exact bx11
   have hown:qW w11 w.heap.size K:=by
    rw[hK.out,hG.out]
    exact⟨aj p1 bx (by decide) hg11,aj p2 bx (by decide) hg11,p3.keep bx (by decide) (by decide) hg11,p4.keep bx (by decide) (by decide) hg11,p5.keep bx (by decide) (by decide) hg11,aj p6 bx (by decide) hg11,aj ho bx (by decide) hg11,fun p hp=>⟨aj (hps p hp).1.2.1 bx (by decide) hg11,(hps p hp).1.2.2.keep bx (by decide) hg11⟩,hks⟩
   have hma:K.ma=H.ma:=by
    rw[hK.out,hG.out]
    unfold MH.ma
    simp only
    rw[hqs.out,hst]
   have hsz:∀p∈K.fi,∀x,oB p.a=some x→oB K.asl≠some x:=by rw[hK.out,hG.out];exact hn2.out
   clear hbr bx rx hg11 bx11 p1 p2 p3 p4 p5 p6 ho
   go_wp2_with (first | (refine ak _ _ rfl w.heap.size 0 rfl rfl (bM K).toList bxK.rd _ Try.underlying40 rfl mach_size ?_) | (refine ax rfl _ _ _ rfl (w.heap.size+1) (bM K) rfl rfl _ _ rx11 rfl mach_size (eF K) ?_))
   intro w12 rx12 hg12
   have hbr12:=hbr11.grown hg12 hbr11.size (fun k hk=>by cases hk;omega)
   go_wp2
   refine bodyPost_ret (v:=.agg (bM K)) (bY Try.results13 _ _ (w.heap.size+1) _ _ _ rfl rx12 Try.underlying40 rfl mach_size) rfl ?_
   exact⟨K,rfl,hown.keep rx11 (by decide) hg12,hma,hsz,hbr12⟩
theorem xU (d:rQ) (k:Int) (ab:Option Addr) (cb:Nat) (aq:Option Addr) (cq:Nat) (w:World) (h:IY w ab cb aq cq d) :
  Calls Try.prog 97 #[.agg #[.slice ab d.blocks.length cb,.slice aq d.queue.length cq],.int .i64 k] w fun e w'=>e = .returned (.tuple #[.agg (dO (iy d k)),.int .i64 (eX d k)])∧Below w.heap.size w w':=by
 go_enter Try.func97,Try.ntmps97
 go_wp2_with fail
 refine nQ (fun W=>Calls _ _ _ W _) fun W0 hb0 hx0 hr0 hs0 => ?_
 refine (oI d ab cb aq cq _ (h.below hb0)).mono ?_
 rintro e w1 ⟨rfl,hb1⟩
 have hbel1:=ae hb0 hb1
 have hx1:=hx0.ext hb1
 have hres1:=hr0.ext hb1
 have h1:=h.below hbel1
 clear hx0 hr0 hb1 hb0 hs0
 have lq:=Nat.le_trans h1.lq h1.mq
 unfold maxLen at lq
 have hc1:=hx1.cell
 by_cases hw:bD d=0
 ·rw[hw]
  by_cases hk:k<0∨(d.blocks.length:Int)≤k
  ·have q1:eX d k=3:=by unfold eX;rw[if_neg (by omega),if_pos hk]
   have q2:dO (iy d k)=#[.int .u8 0,.int .u8 0,.int .u8 0,.int .u8 0,.int .u8 0,.int .u8 0,.int .u8 0,.int .u8 0]:=by unfold iy;rw[q1];rfl
   rcases hk with hk|hk
   all_goals
    go_wp2_with (refine ax rfl _ (.tmp 4) (.tmp 25) rfl (w.heap.size+1) #[.int .u8 0,.int .u8 0,.int .u8 0,.int .u8 0,.int .u8 0,.int .u8 0,.int .u8 0,.int .u8 0] rfl rfl _ _ hres1 zz_fit zz_info zz_one ?_)
    all_goals
     intro w2 hr2 hgr
     have hbel2:=hbel1.grown hgr hbel1.size (fun k hk=>by cases hk;omega)
     have hcr:=hr2.cell
     go_wp2
     simp[bodyPost,results,go_sem,Try.results97,hcr,q1,q2]
     exact hbel2
  ·obtain⟨k,rfl⟩:=Int.eq_ofNat_of_zero_le (show 0≤k by omega)
   have hkl:k<d.blocks.length:=by omega
   have k1:¬(d.blocks.length:Int)≤(k:Int):=by omega
   have kz:(k:Int)<(d.blocks.length:Int):=by omega
   have q1:eX d k=0:=by unfold eX;rw[if_neg (by omega),if_neg hk]
   have q2:iy d k=over k d.blocks[k] d.queue:=by unfold iy;rw[q1,if_pos rfl];simp[hkl]
   have Q:=Lib.hid (And.intro q1 q2)
   have hgx:w.heap.size+2≤w1.heap.size:=by have:=hres1.lt;omega
   clear hk q1 q2
   have hd:decide (d.blocks.length≤k)=false:=by simp;omega
   obtain⟨b,off,rfl,hc⟩:=KO h1.rb k hkl
   have c0:=hc 0 (by decide);have c1:=hc 1 (by decide);have c2:=hc 2 (by decide);have c3:=hc 3 (by decide)
   have c4:=hc 4 (by decide);have c5:=hc 5 (by decide);have c6:=hc 6 (by decide);have c7:=hc 7 (by decide)
   simp only[dO,List.getElem?_toArray,List.getElem?_cons_zero,List.getElem?_cons_succ,Nat.add_zero] at c0 c1 c2 c3 c4 c5 c6 c7
   clear hc
   go_upto_region 7 with (fail)
   refine eP (fun W=>Code.wp _ _ _ _ W) fun w2 hb2 hp2 hs2 => ?_
   have hbel2:=ae hbel1 hb2
   have hx2:=hx1.ext hb2
   have hres2:=hres1.ext hb2
   have hp2' : aB w2 w1.heap.size (dO d.blocks[k]) 50:=hp2
   clear hbel1 hx1 hres1 h1 hb2 hp2 hs2 hc1 c0 c1 c2 c3 c4 c5 c6 c7
   have hc2:=hx2.cell
   go_wp2
   clear hc2 hx2
   go_loopw [34] (fun i wr => ∃j:Nat,j≤d.queue.length∧i = .int .i64 j∧Below w.heap.size w wr∧aB wr (w.heap.size+1) #[.int .u8 0,.int .u8 0,.int .u8 0,.int .u8 0,.int .u8 0,.int .u8 0,.int .u8 0,.int .u8 0] 50∧aB wr w1.heap.size (dO (over k d.blocks[k] (d.queue.take j))) 50) (fun i _=>d.queue.length-(intOf i).toNat)
   case atStart=>exact⟨0,Nat.zero_le _,rfl,hbel2,hres2,hp2'⟩
   case round=>
    clear hbel2 hres2 hp2'
    obtain⟨j,hj,rfl,hbel,hres,hp⟩:=hrel
    by_cases hlt:j<d.queue.length
    ·obtain⟨b',off',rfl,hc⟩:=CW (h.below hbel).rq j hlt
     have c0:=hc 0 (by decide);have c1:=hc 1 (by decide);have c2:=hc 2 (by decide);have c3:=hc 3 (by decide);have c4:=hc 4 (by decide)
     have c5:=hc 5 (by decide);have c6:=hc 6 (by decide);have c7:=hc 7 (by decide);have c8:=hc 8 (by decide)
     simp only[Bq,List.getElem?_toArray,List.getElem?_cons_zero,List.getElem?_cons_succ,Nat.add_zero] at c0 c1 c2 c3 c4 c5 c6 c7 c8
     clear hc
     have hot:=Lib.hid (EX (k:Int) d.blocks[k] d.queue j hlt)
     by_cases he:d.queue[j].1=(k:Int)
     ·have hot' : Hid (over (k:Int) d.blocks[k] (d.queue.take (j+1))=d.queue[j].2):=by have:=hot.out;rw[if_pos he] at this;exact this
      rw[he] at c0
      clear hot he
      have hpa:=hp.alloc (.cells #[.int .i64 k,.int .u8 d.queue[j].2[0].toNat,.int .u8 d.queue[j].2[1].toNat,.int .u8 d.queue[j].2[2].toNat,.int .u8 d.queue[j].2[3].toNat,.int .u8 d.queue[j].2[4].toNat,.int .u8 d.queue[j].2[5].toNat,.int .u8 d.queue[j].2[6].toNat,.int .u8 d.queue[j].2[7].toNat] 93)
      go_wp2_with (refine ax rfl _ (.tmp 7) (.tmp 43) rfl w1.heap.size (dO d.queue[j].2) rfl rfl _ _ hpa (JN _ _) (DZ _) (dP _) ?_)
      intro w4 hp4 hgr
      have hbel4:=(hbel.alloc hbel.size _).grown hgr (cO hbel.size _) (fun k hk=>by cases hk;omega)
      have hres4:=(hres.alloc _).grown hgr (fun he=>by have:=Option.some.inj he;omega)
      clear hpa hp hbel hres hgr c0 c1 c2 c3 c4 c5 c6 c7 c8
      go_wp2
      go_roundw
      case rel=>exact⟨j+1,by omega,by go_num,hbel4,hres4,by rw[hot'.out];exact hp4⟩
      case measure=>simp[intOf];omega
     ·have hot' : Hid (over (k:Int) d.blocks[k] (d.queue.take (j+1))=over (k:Int) d.blocks[k] (d.queue.take j)):=by have:=hot.out;rw[if_neg he] at this;exact this
      have hne:(d.queue[j].1==(k:Int))=false:=by simpa using he
      clear hot he
      go_wp2
      go_roundw
      case rel=>exact⟨j+1,by omega,by go_num,hbel.alloc hbel.size _,hres.alloc _,by rw[hot'.out];exact hp.alloc _⟩
      case measure=>simp[intOf];omega
    ·rw[List.take_of_length_le (show d.queue.length≤j by omega)] at hp
     have hq2:=Q.out.2
     rw[←hq2] at hp
     have hcp:=hp.cell
     rw[DI] at hcp
     clear hq2
     go_wp2_with (refine ax rfl _ (.tmp 4) (.tmp 45) rfl (w.heap.size+1) (dO (iy d k)) rfl rfl _ _ hres (LJ _) (DZ _) (dP _) ?_)
     intro w4 hr4 hgr
     have hbel4:=hbel.grown hgr hbel.size (fun k hk=>by cases hk;omega)
     have hcr:=hr4.cell
     obtain⟨e0,e1,e2,e3,e4,e5,e6,e7⟩:=KQ (iy d k)
     clear hcp
     go_wp2
     simp[bodyPost,results,go_sem,Try.results97,hcr,e0,e1,e2,e3,e4,e5,e6,e7,Q.out.1]
     exact⟨rfl,hbel4⟩
 ·have q1:eX d k=bD d:=by unfold eX;rw[if_pos hw]
  have q2:dO (iy d k)=#[.int .u8 0,.int .u8 0,.int .u8 0,.int .u8 0,.int .u8 0,.int .u8 0,.int .u8 0,.int .u8 0]:=by unfold iy;rw[q1,if_neg hw];rfl
  have hw' : (bD d != 0)=true:=by simpa using hw
  go_wp2_with (refine ax rfl _ (.tmp 4) (.tmp 14) rfl (w.heap.size+1) #[.int .u8 0,.int .u8 0,.int .u8 0,.int .u8 0,.int .u8 0,.int .u8 0,.int .u8 0,.int .u8 0] rfl rfl _ _ hres1 zz_fit zz_info zz_one ?_)
  intro w2 hr2 hgr
  have hbel2:=hbel1.grown hgr hbel1.size (fun k hk=>by cases hk;omega)
  have hcr:=hr2.cell
  go_wp2
  simp[bodyPost,results,go_sem,Try.results97,hcr,q1,q2]
  exact hbel2
theorem Bu (f:Fr) (w:World):Calls Try.prog 117 #[.agg (qa f)] w fun e w'=>e = .returned (.int .i64 (dn f))∧Below w.heap.size w w':=by
 have hE:∀W,(Op.equalIn 10000 50 (.agg #[.int .u8 f.p[0].toNat,.int .u8 f.p[1].toNat,.int .u8 f.p[2].toNat,.int .u8 f.p[3].toNat,.int .u8 f.p[4].toNat,.int .u8 f.p[5].toNat,.int .u8 f.p[6].toNat,.int .u8 f.p[7].toNat]) (.agg #[.int .u8 0,.int .u8 0,.int .u8 0,.int .u8 0,.int .u8 0,.int .u8 0,.int .u8 0,.int .u8 0])).run Try.prog W = .ok (f.p==zPg) W:=Ni f.p zPg
 have hE9:∀W,(Op.equalIn 9999 50 (.agg #[.int .u8 f.p[0].toNat,.int .u8 f.p[1].toNat,.int .u8 f.p[2].toNat,.int .u8 f.p[3].toNat,.int .u8 f.p[4].toNat,.int .u8 f.p[5].toNat,.int .u8 f.p[6].toNat,.int .u8 f.p[7].toNat]) (.agg #[.int .u8 0,.int .u8 0,.int .u8 0,.int .u8 0,.int .u8 0,.int .u8 0,.int .u8 0,.int .u8 0])).run Try.prog W = .ok (f.p==zPg) W:=Nv f.p zPg
 go_enter Try.func117,Try.ntmps117
 unfold qa
 cases hp:(f.p==zPg)
 all_goals rw[hp] at hE hE9
 all_goals have hp':=Lib.hid hp
 all_goals clear hp
 all_goals go_wp2
 all_goals go_ret
 all_goals refine⟨?_,(Below.refl _ _).alloc (Nat.le_refl _) _⟩
 all_goals have hp:=hp'.out
 all_goals clear hE hE9 hp'
 all_goals go_light
 all_goals refine congrArg (fun z=>Ending.returned (.int .i64 z)) ?_
 all_goals simp only[dn,xh,yB,uf,Bool.or_eq_true,Bool.and_eq_true,decide_eq_true_eq,ne_eq,bne_iff_ne]
 all_goals simp_all
 all_goals omega
theorem Bt (m:Mem) (a:Option Addr) (c:Nat) (w:World) (h:KP w a c m) :
  Calls Try.prog 85 #[.agg #[.slice a m.fs.length c,.int .i64 m.hand]] w fun e w'=>e = .returned (.int .i64 (cz m))∧Below w.heap.size w w':=by
 have hl:=Nat.le_trans h.le h.mx
 unfold maxLen at hl
 go_enter Try.func85,Try.ntmps85
 go_upto_region 1 with (fail)
 refine eP (fun W=>Code.wp _ _ _ _ W) fun W0 hb0 hx0 hs0 => ?_
 clear hs0
 have hcx:=hx0.cell
 by_cases h4:40<m.fs.length
 ·have hW:cz m=4:=by unfold cz;rw[if_pos h4]
  have h4' : (40:Int)<(m.fs.length:Int):=by omega
  go_wp2
  go_ret
  rw[hW]
  exact⟨rfl,hb0⟩
 ·have h4' : ¬(40:Int)<(m.fs.length:Int):=by omega
  go_wp2
  clear hcx
  go_loopw [13] (fun i wr => ∃k:Nat,k≤m.fs.length∧i = .int .i64 k∧Below w.heap.size w wr∧aB wr w.heap.size #[.slice a m.fs.length c,.int .i64 m.hand] 27∧∀i (h:i<m.fs.length),i<k→dn m.fs[i]=0) (fun i _=>m.fs.length-(intOf i).toNat)
  case atStart=>exact⟨0,Nat.zero_le _,rfl,hb0,hx0,fun i _ h=>absurd h (Nat.not_lt_zero _)⟩
  case round=>
   clear hx0 hb0
   obtain⟨k,hk,rfl,hbel,hx,hno⟩:=hrel
   have hno':=Lib.hid hno
   clear hno
   by_cases hlt:k<m.fs.length
   ·obtain⟨b,off,rfl,hc⟩:=Dp (h.below hbel).rd k hlt
    obtain⟨c0,c1,c2,c3,c4,c5,c6,c7,c8,c9,ca,cb,cc⟩:=hc
    have hkz:(k:Int)<(m.fs.length:Int):=by omega
    have hf:=fun w=>Bu m.fs[k] w
    unfold qa at hf
    by_cases he:dn m.fs[k]=0
    ·have he':=Lib.hid he
     rw[he] at hf
     clear he
     go_upto_region 6 with (fail)
     refine eP (fun W=>Code.wp _ _ _ _ W) fun w1 hb1 hy1 hs1 => ?_
     have hbel1:=ae hbel hb1
     have hx1:=hx.ext hb1
     clear hs1 hbel hx hb1
     have hcy:=hy1.cell
     go_wp2_with fail
     refine (hf _).mono ?_
     rintro e w2 ⟨rfl,hb2⟩
     go_wp2
     go_roundw
     case rel=>exact⟨k+1,by omega,by go_num,ae hbel1 hb2,hx1.ext hb2,jF hno'.out hlt he'.out⟩
     case measure=>simp[intOf];omega
    ·have hW:cz m=dn m.fs[k]:=by
      have:=firstEf_at _ k hlt hno'.out he
      unfold cz;rw[if_neg h4,this,if_pos he]
     have hn:(dn m.fs[k] != 0)=true:=by simpa using he
     have hW':=Lib.hid hW
     clear hW
     go_upto_region 6 with (fail)
     refine eP (fun W=>Code.wp _ _ _ _ W) fun w1 hb1 hy1 hs1 => ?_
     have hbel1:=ae hbel hb1
     clear hs1 hbel hx hb1
     have hcy:=hy1.cell
     go_wp2_with fail
     refine (hf _).mono ?_
     rintro e w2 ⟨rfl,hb2⟩
     go_wp2
     go_ret
     rw[hW'.out]
     exact⟨rfl,ae hbel1 hb2⟩
   ·have h0:firstEf m.fs=0:=firstEf_none _ (fun i hi=>hno'.out i hi (by omega))
    have hW:cz m=if m.hand<0∨(0<m.hand∧(m.fs.length:Int)≤m.hand) then 3 else 0:=by
     unfold cz;rw[if_neg h4,h0];rfl
    have hW':=Lib.hid hW
    have hcx:=hx.cell
    clear hW h0
    by_cases n0:m.hand=0
    ·have nb:(m.hand != 0)=false:=by simp[n0]
     have n0':=Lib.hid n0
     clear n0
     go_wp2
     all_goals
      go_ret
      rw[hW'.out,if_neg (by have:=n0'.out;omega)]
      exact⟨rfl,hbel⟩
    ·have nb:(m.hand != 0)=true:=by simpa using n0
     by_cases n1:m.hand<0
     ·go_wp2
      all_goals
       go_ret
       rw[hW'.out,if_pos (.inl n1)]
       exact⟨rfl,hbel⟩
     ·by_cases n3:(m.fs.length:Int)≤m.hand
      ·go_wp2
       all_goals
        go_ret
        rw[hW'.out,if_pos (.inr ⟨by omega,n3⟩)]
        exact⟨rfl,hbel⟩
      ·go_wp2
       all_goals
        go_ret
        rw[hW'.out,if_neg (by omega)]
        exact⟨rfl,hbel⟩
theorem zQ (t : Tb) (cs : Array Value) (w : World) (h : zo w cs t) : Calls Try.prog 90 #[.agg cs] w fun r w' => r = .returned (.int .i64 (bB t)) ∧ Below w.heap.size w w' := by
  go_enter Try.func90, Try.ntmps90
  go_upto_region 1 with (fail)
  refine eP (fun W => Code.wp _ _ _ _ W) fun W0 hb0 hx0 hs0 => ?_
  clear hs0
  go_wp2_with (refine dJ rfl 63 (.tmp 1) rfl w.heap.size 0 rfl cs.toList hx0.rd _ Try.underlying63 tab_agg (by rw [Array.length_toList, h.sz]; exact tab_size) ?_)
  clear hx0
  go_loopw [9] (fun i wr => ∃ k : Nat, k ≤ 8 ∧ i = .int .i64 k ∧ Below w.heap.size w wr ∧ ∀ i (hi : i < 8), i < k → iB t[i] = 0) (fun i _ => 8 - (intOf i).toNat)
  case atStart => exact ⟨0, Nat.zero_le _, rfl, hb0, fun i _ h => absurd h (Nat.not_lt_zero _)⟩
  case round =>
    obtain ⟨k, hk, rfl, hbr, hp0⟩ := hrel
    have hp := Lib.hid hp0
    clear hp0 hb0
    by_cases hlt : k < 8
    · obtain ⟨a, c, hcs, hle, hmx, hnil, hrd⟩ := h.at' k hlt
      have hix := fun W => uP hlt hcs W
      have hd8 : decide ((k : Int) < 8) = true := by simp; omega
      unfold maxLen at hmx
      clear hcs
      by_cases h08 : t[k].length = 0 ∨ t[k].length = 8
      · have H08 := Lib.hid h08
        have hl8 : t[k].length ≤ 8 := by omega
        have q1 : ((t[k].length : Int) != 0) = true ∧ ((t[k].length : Int) != 8) = false ∨ ((t[k].length : Int) != 0) = false ∧ ((t[k].length : Int) != 8) = true := by
          rcases h08 with e | e <;> simp [e]
        clear h08
        rcases q1 with ⟨q1, q2⟩ | ⟨q1, q2⟩
        all_goals
          go_wp2
          clear hix
          go_loopw [22, 5] (fun i s wr' => ∃ j c : Nat, j ≤ t[k].length ∧ c ≤ j ∧ i = .int .i64 j ∧ s = .int .i64 c ∧ Below w.heap.size w wr' ∧ Hid (c = 0 ↔ pY t[k] j = false) ∧ ∀ i (hi : i < t[k].length), i < j → dm t[k][i] = 0) (fun i _ _ => t[k].length - (intOf i).toNat)
          case atStart => exact ⟨0, 0, Nat.zero_le _, Nat.le_refl _, rfl, rfl, hbr, Lib.hid (by simp [Ey]), fun i _ h => absurd h (Nat.not_lt_zero _)⟩
          case round =>
            obtain ⟨j, n, hj, hnj, rfl, rfl, hbq, hn0, hq0⟩ := hrel
            have hq := Lib.hid hq0
            clear hq0 hbr
            by_cases hjl : j < t[k].length
            · obtain ⟨b, off, rfl, c0, c1, c2⟩ := yf (hrd.below hbq) j hjl
              go_upto_region 10 with (fail)
              refine eP (fun W => Code.wp _ _ _ _ W) fun W3 hb3 hx3 hs3 => ?_
              have hbel3 := ae hbq hb3
              have hx4 := hx3.cell
              have hfin : Hid (dm t[k][j] ≠ 0 → bB t = dm t[k][j]) := Lib.hid (fun he => (kY k hlt hp.out (by rw [rE H08.out j hjl hq.out he]; exact he)).trans (rE H08.out j hjl hq.out he))
              have hok : Hid (dm t[k][j] = 0 → ∀ i (hi : i < t[k].length), i < j + 1 → dm t[k][i] = 0) := Lib.hid (fun he => jF hq.out hjl he)
              have hai : Hid (0 ≤ t[k][j].k → ((0 < t[k][j].k) → (n + 1 = 0 ↔ pY t[k] (j + 1) = false)) ∧ (¬ 0 < t[k][j].k → (n = 0 ↔ pY t[k] (j + 1) = false))) := Lib.hid (IL hjl hn0.out)
              clear hbq hs3 c0 c1 c2 hb3 hx3 hq hp hn0
              generalize t[k][j] = E at hx4 hfin hok hai
              go_wp2
              all_goals first
                | (go_ret
                   refine ⟨aO ?_, hbel3⟩
                   clear hx4 hok hai
                   go_light
                   have he : dm E ≠ 0 → bB t = dm E := hfin.out
                   clear hfin
                   unfold dm at he
                   simp_all <;> omega)
                | (have he : dm E = 0 := by
                     clear hx4 hok hai hfin
                     go_light
                     unfold dm
                     simp_all <;> omega
                   have hk0 : 0 ≤ E.k := by
                     clear hx4 hok hai hfin he
                     go_light
                     omega
                   have hq2 := Lib.hid (hok.out he)
                   have ha2 := Lib.hid (hai.out hk0)
                   clear hai hok hfin he hx4
                   have hkp : 0 < E.k := by
                     go_light
                     omega
                   have ha3 := Lib.hid (ha2.out.1 hkp)
                   clear ha2
                   go_roundw
                   case rel => exact ⟨j + 1, n + 1, by omega, by omega, by go_num, by go_num, hbel3, ha3, hq2.out⟩
                   case measure => simp [intOf]; omega)
                | (have he : dm E = 0 := by
                     clear hx4 hok hai hfin
                     go_light
                     unfold dm
                     simp_all <;> omega
                   have hk0 : 0 ≤ E.k := by
                     clear hx4 hok hai hfin he
                     go_light
                     omega
                   have hq2 := Lib.hid (hok.out he)
                   have ha2 := Lib.hid (hai.out hk0)
                   clear hai hok hfin he hx4
                   have hkp : ¬ 0 < E.k := by
                     go_light
                     omega
                   have ha3 := Lib.hid (ha2.out.2 hkp)
                   clear ha2
                   go_roundw
                   case rel => exact ⟨j + 1, n, by omega, by omega, by go_num, rfl, hbel3, ha3, hq2.out⟩
                   case measure => simp [intOf]; omega)
            · have hend := Lib.hid (oO H08.out fun i hi => hq.out i hi (by omega))
              have hall := BC t[k] j (by omega)
              by_cases hgo : t[k].length = 8 ∧ n = 0
              · obtain ⟨g1, g2⟩ := hgo
                have hfin2 := Lib.hid (hend.out.trans (if_pos ⟨by omega, by rw [← hall]; exact hn0.out.1 g2⟩))
                have hfin := Lib.hid (kY k hlt hp.out (by rw [hfin2.out]; decide))
                have g3 : ((t[k].length : Int) == 8) = true := by rw [beq_iff_eq]; omega
                subst g2
                clear hall g1
                go_wp2
                go_ret
                exact ⟨aO (hfin.out.trans hfin2.out).symm, hbq⟩
              · have hfin2 := Lib.hid (hend.out.trans (if_neg (fun h => hgo ⟨by have := H08.out; omega, hn0.out.2 (hall.trans h.2)⟩)))
                have hgo2 : ((t[k].length : Int) == 8) = false ∨ ((t[k].length : Int) == 8) = true ∧ ((n : Int) == 0) = false := by
                  by_cases hz : t[k].length = 8
                  · exact .inr ⟨by rw [beq_iff_eq]; omega, by rw [beq_eq_false_iff_ne]; omega⟩
                  · exact .inl (by rw [beq_eq_false_iff_ne]; omega)
                clear hgo hall
                rcases hgo2 with g1 | ⟨g1, g2⟩
                all_goals
                  go_wp2
                  go_roundw
                  case rel => exact ⟨k + 1, by omega, by go_num, hbq, jF hp.out hlt hfin2.out⟩
                  case measure => simp [intOf]; omega
      · have q1 : ((t[k].length : Int) != 0) = true := by rw [bne_iff_ne]; omega
        have q2 : ((t[k].length : Int) != 8) = true := by rw [bne_iff_ne]; omega
        have hfin2 := Lib.hid (qH (h := t[k]) (by omega))
        have hfin := Lib.hid (kY k hlt hp.out (by rw [hfin2.out]; decide))
        go_wp2
        go_ret
        exact ⟨aO (hfin.out.trans hfin2.out).symm, hbr⟩
    · have hfin := Lib.hid (oD fun i hi => hp.out i hi (by omega))
      go_wp2
      go_ret
      exact ⟨aO hfin.out.symm, hbr⟩
theorem MO (f g:En) (b:Bool) (h:(f==g)=b) (W:World):(Op.equalIn 10000 67 (.agg #[.int .i64 f.k,.int .i64 f.n,.bool f.w]) (.agg #[.int .i64 g.k,.int .i64 g.n,.bool g.w])).run Try.prog W = .ok b W:=by
 rw[←h,Mg]
 by_cases h1:(f.k==g.k)=true
 ·by_cases h2:(f.n==g.n)=true
  ·by_cases h3:f.w=g.w<;>simp[go_sem,h1,h2,h3]
  ·simp[go_sem,h1,h2]
 ·simp[go_sem,h1]
theorem FC (t u:Tb) (cs ds:Array Value) (w:World) (h:zo w cs t) (h' : zo w ds u):Calls Try.prog 53 #[.agg cs,.agg ds] w fun r w'=>r = .returned (.bool (xQ t u))∧Below w.heap.size w w':=by
 go_enter Try.func53,Try.ntmps53
 go_upto_region 1 with (fail)
 refine nQ (fun W=>Code.wp _ _ _ _ W) fun W0 hb0 hx0 hy0 hs0 => ?_
 clear hs0
 go_wp2
 go_loopw [7] (fun i wr => ∃k:Nat,k≤8∧i = .int .i64 k∧Below w.heap.size w wr∧aB wr w.heap.size cs 63∧aB wr (w.heap.size+1) ds 63∧∀i (hi:i<8),i<k→t[i]=u[i]) (fun i _=>8-(intOf i).toNat)
 case atStart=>exact⟨0,Nat.zero_le _,rfl,hb0,hx0,hy0,fun i _ h=>absurd h (Nat.not_lt_zero _)⟩
 case round=>
  obtain⟨k,hk,rfl,hbr,hx,hy,hp0⟩:=hrel
  have hp:=Lib.hid hp0
  clear hp0 hb0 hx0 hy0
  by_cases hlt:k<8
  ·obtain⟨a,c,hcs,hle,hmx,hnil,hrd⟩:=h.at' k hlt
   obtain⟨a',c',hds,hle',hmx',hnil',hrd'⟩:=h'.at' k hlt
   have hd8:decide ((k:Int)<8)=true:=by simp;omega
   have hk8:(k:Int)<8:=by omega
   unfold maxLen at hmx hmx'
   have HC:=Lib.hid hcs
   have HD:=Lib.hid hds
   have hcx:=(hx.cell k).trans hcs
   have hcy:=(hy.cell k).trans hds
   clear hcs hds
   by_cases hl:t[k].length=u[k].length
   ·have hl':=Lib.hid hl
    have hne:((t[k].length:Int) != (u[k].length:Int))=false:=by simp[hl]
    clear hl
    go_wp2_with fail
    go_quiet (fail)
    go_wp2
    clear hcx hcy
    generalize hW1:wr.drewN _=w1
    have hbr1:Below w.heap.size w w1:=by rw[←hW1];exact below_drewN hbr _
    have hx1:aB w1 w.heap.size cs 63:=by rw[←hW1];exact hx.drewN _
    have hy1:aB w1 (w.heap.size+1) ds 63:=by rw[←hW1];exact hy.drewN _
    clear hW1 hbr hx hy
    go_loopw [23] (fun i wr => ∃j:Nat,j≤t[k].length∧i = .int .i64 j∧Below w.heap.size w wr∧aB wr w.heap.size cs 63∧aB wr (w.heap.size+1) ds 63∧∀i (hi:i<t[k].length),i<j→t[k][i]=u[k][i]'(by have:=hl'.out;omega)) (fun i _=>t[k].length-(intOf i).toNat)
    case atStart=>exact⟨0,Nat.zero_le _,rfl,hbr1,hx1,hy1,fun i _ h=>absurd h (Nat.not_lt_zero _)⟩
    case round=>
     obtain⟨j,hj,rfl,hbr,hx,hy,hq0⟩:=hrel
     have hq:=Lib.hid hq0
     clear hq0 hbr1 hx1 hy1
     have hcx:=(hx.cell k).trans HC.out
     have hcy:=(hy.cell k).trans HD.out
     by_cases hjl:j<t[k].length
     ·have hjl' : j<u[k].length:=by have:=hl'.out;omega
      have k1:(j:Int)<(u[k].length:Int):=by omega
      obtain⟨b,off,rfl,c0,c1,c2⟩:=yf (hrd.below hbr) j hjl
      obtain⟨b',off',rfl,d0,d1,d2⟩:=yf (hrd'.below hbr) j hjl'
      by_cases he:t[k][j]=u[k][j]
      ·have hE:=MO t[k][j] u[k][j] true (beq_iff_eq.2 he)
       have he':=Lib.hid he
       clear he
       go_wp2_with fail
       go_quiet (fail)
       go_wp2
       go_roundw
       case rel=>exact⟨j+1,by omega,by go_num,below_drewN hbr _,hx.drewN _,hy.drewN _,Nf hl'.out hjl hq.out he'.out⟩
       case measure=>simp[intOf];omega
      ·have hE:=MO t[k][j] u[k][j] false (beq_eq_false_iff_ne.2 he)
       have hfin:=Lib.hid (yD k hlt (MC j hjl hjl' he))
       clear he
       go_wp2_with fail
       go_quiet (fail)
       go_wp2
       go_ret
       exact⟨bK hfin.out.symm,below_drewN hbr _⟩
     ·have hall:=Lib.hid (jF hp.out hlt (Lr hl'.out j hjl hq.out))
      go_wp2
      go_roundw
      case rel=>exact⟨k+1,by omega,by go_num,hbr,hx,hy,hall.out⟩
      case measure=>simp[intOf];omega
   ·have hne:((t[k].length:Int) != (u[k].length:Int))=true:=by rw[bne_iff_ne];omega
    have hfin:=Lib.hid (yD k hlt (fun e=>hl (by rw[e])))
    clear hl
    go_wp2_with fail
    go_quiet (fail)
    go_wp2
    go_ret
    exact⟨bK hfin.out.symm,below_drewN hbr _⟩
  ·have hfin:=Lib.hid (yN fun i hi=>hp.out i hi (by omega))
   go_wp2
   go_ret
   exact⟨bK hfin.out.symm,hbr⟩
def nW (l:List En):Array Value:=(l.flatMap gM).toArray
theorem mQ (l:List En):(nW l).size=l.length*3:=by
 unfold nW;rw[List.size_toArray,lV]
theorem KU (l:List En) (k:Nat) (hk:k<l.length) (x:En):putAt (nW l) (k*3) (gM x)=nW (l.set k x):=by
 apply Array.ext_getElem?
 intro i
 have hl:=lV l
 have hl':=lV (l.set k x)
 rw[List.length_set] at hl'
 by_cases hi:i<l.length*3
 ·have hq:i / 3<l.length:=by omega
  have hir:i=i / 3*3+i%3:=by omega
  have h2:=gG gM 3 dx (l.set k x) (i / 3) (by simpa using hq) (i%3) (by omega)
  rw[←hir] at h2
  have h3:=gG gM 3 dx l (i / 3) hq (i%3) (by omega)
  rw[←hir] at h3
  have e2:(nW (l.set k x))[i]?=((l.set k x).flatMap gM)[i]?:=by simp[nW]
  have e3:(nW l)[i]?=(l.flatMap gM)[i]?:=by simp[nW]
  by_cases e:i / 3=k
  ·have hik:i=k*3+i%3:=by omega
   have hlt:i%3<(gM x).length:=by rw[dx];omega
   have h1:=putAt_in (gM x) (nW l) (k*3) (i%3) (gM x)[i%3] (by rw[dx,mQ];omega) (List.getElem?_eq_getElem hlt)
   rw[←hik] at h1
   rw[h1,e2,h2]
   simp only[e,List.getElem_set_self]
   exact (List.getElem?_eq_getElem hlt).symm
  ·rw[putAt_out _ _ _ _ (by rw[dx];omega),e2,h2,e3,h3]
   congr 2
   rw[List.getElem_set_ne (fun h=>e h.symm)]
 ·rw[Array.getElem?_eq_none (by rw[size_putAt,mQ];omega),Array.getElem?_eq_none (by rw[mQ,List.length_set];omega)]
theorem arr64_size:(Try.prog.info? 95).map (·.size)=some 192:=by kernel_rfl
theorem KF {w:World} {b:Nat} {cur:Array Value} {E:En} {T:TypeId} (h:aB w b (putAt cur 0 (gM E)) T) (hc:cur.size=3):aB w b (fA E) T:=by
 have:putAt cur 0 (fA E).toList=fA E:=gN cur (fA E) (by rw[hc];rfl)
 have h2:aB w b (putAt cur 0 (fA E).toList) T:=h
 rwa [this] at h2
theorem tK (t:Tb) (cs:Array Value) (w:World) (h:zo w cs t) (h0:bB t=0):Calls Try.prog 45 #[.agg cs] w fun r w'=>r = .returned (.agg (nW (bA t)))∧Below w.heap.size w w':=by
 have H0:=Lib.hid h0
 clear h0
 go_enter Try.func45,Try.ntmps45
 go_upto_region 2 with (fail)
 refine JD (fun W=>Code.wp _ _ _ _ W) fun W0 hb0 hx0 hres0 ho0 hs0 => ?_
 clear hs0
 replace ho0:aB W0 (w.heap.size+2) (nW (List.replicate 64 zEn)) 95:=ho0
 replace hres0:aB W0 (w.heap.size+1) (nW (List.replicate 64 zEn)) 95:=hres0
 go_wp2_with (refine dJ rfl 63 (.tmp 1) rfl w.heap.size 0 rfl cs.toList hx0.rd _ Try.underlying63 tab_agg (by rw[Array.length_toList,h.sz];exact tab_size) ?_)
 have hF0:Hid (BM t (8*0) (List.replicate 64 zEn)):=Lib.hid BM.start
 clear hx0
 have hF0':=hF0
 rw[Nat.mul_zero] at hF0
 go_loopw [9] (fun i wr => ∃(k:Nat) (l:List En),k≤8∧i = .int .i64 k∧Below w.heap.size w wr∧aB wr (w.heap.size+2) (nW l) 95∧aB wr (w.heap.size+1) (nW (List.replicate 64 zEn)) 95∧Hid (BM t (8*k) l)) (fun i _=>8-(intOf i).toNat)
 case atStart=>exact⟨0,_,Nat.zero_le _,rfl,hb0,ho0,hres0,hF0'⟩
 case round=>
  obtain⟨k,l,hk,rfl,hbr,ho,hres,hF⟩:=hrel
  clear hb0 ho0 hres0 hF0 hF0'
  by_cases hlt:k<8
  ·obtain⟨a,c,hcs,hle,hmx,hnil,hrd⟩:=h.at' k hlt
   have hix:=fun W=>uP hlt hcs W
   have hd8:decide ((k:Int)<8)=true:=by simp;omega
   have hl8:=Lib.hid (jT (ib H0.out k hlt))
   have hl9:t[k].length≤8:=by have:=hl8.out;omega
   unfold maxLen at hmx
   clear hcs
   go_wp2
   clear hix
   go_loopw [15] (fun i wr' => ∃(j:Nat) (l' : List En),j≤t[k].length∧i = .int .i64 j∧Below w.heap.size w wr'∧aB wr' (w.heap.size+2) (nW l') 95∧aB wr' (w.heap.size+1) (nW (List.replicate 64 zEn)) 95∧Hid (BM t (8*k+j) l')) (fun i _=>t[k].length-(intOf i).toNat)
   case atStart=>exact⟨0,l,Nat.zero_le _,rfl,hbr,ho,hres,hF⟩
   case round=>
    obtain⟨j,l',hj,rfl,hbq,ho2,hres2,hF2⟩:=hrel
    clear hbr ho hres
    by_cases hjl:j<t[k].length
    ·obtain⟨b,off,E,rfl,hE,c0,c1,c2⟩:=Hq (hrd.below hbq) j hjl
     have hgE:=Lib.hid (xX hlt (by omega) (by have:=hl8.out;omega) hE)
     have hm1:(8:Int)*(k:Int)+(j:Int)<64:=by omega
     have hF3:=Lib.hid (hF2.out.step (by omega) hgE.out)
     have hfit:Hid ((8*k+j)*3+3≤(nW l').size):=Lib.hid (by rw[mQ,hF2.out.len];omega)
     have hset:Hid (putAt (nW l') ((8*k+j)*3) (gM E)=nW (l'.set (8*k+j) E)):=Lib.hid (KU l' _ (by rw[hF2.out.len];omega) E)
     clear hE hgE hF2
     go_wp2_with (refine ay rfl _ (.tmp 7) (.tmp 19) rfl wr.heap.size 0 _ (gM E) rfl rfl rfl _ _ (aB.new _ _ _) (Nat.le_refl 3) entry_size (wQ E) ?_)
     intro w4 hx4 hgr4
     have hx4':=KF hx4 rfl
     have hlt0:=ho2.lt
     have ho4:aB w4 (w.heap.size+2) _ _:=(ho2.alloc _).grown hgr4 (fun e=>by have:=Option.some.inj e;omega)
     have hres4:aB w4 (w.heap.size+1) _ _:=(hres2.alloc _).grown hgr4 (fun e=>by have:=Option.some.inj e;omega)
     have hbel4:Below w.heap.size w w4:=(hbq.alloc hbq.size _).grown hgr4 (cO hbq.size _) (fun k hk=>by cases hk;exact hbq.size)
     clear hx4 ho2 hres2 hbq hgr4
     go_wp2_with (first | (refine dJ rfl 67 (.tmp 7) rfl wr.heap.size 0 rfl (gM E) hx4'.rd _ Try.underlying67 rfl entry_size ?_) | (refine ay rfl _ (.tmp 25) (.tmp 24) rfl (w.heap.size+2) ((8*k+j)*3) _ (gM E) rfl rfl rfl _ _ ho4 hfit.out entry_size (wQ E) ?_))
     intro w5 ho5 hgr5
     rw[hset.out] at ho5
     have hres5:aB w5 (w.heap.size+1) _ _:=hres4.grown hgr5 (fun e=>by have:=Option.some.inj e;omega)
     have hbel5:Below w.heap.size w w5:=hbel4.grown hgr5 hbel4.size (fun k hk=>by cases hk;omega)
     clear ho4 hres4 hbel4 hgr5 hset hfit hx4' c0 c1 c2
     go_wp2
     go_roundw
     case rel=>exact⟨j+1,_,by omega,by go_num,hbel5,ho5,hres5,hF3⟩
     case measure=>simp[intOf];omega
    ·have hF3:Hid (BM t (8*(k+1)) l'):=by
      rcases hl8.out with e|e
      ·have e0:j=0:=by omega
       subst e0
       exact Lib.hid (BM.skip hF2.out hlt e)
      ·have e8:j=8:=by omega
       subst e8
       exact hF2
     go_wp2
     go_roundw
     case rel=>exact⟨k+1,l',by omega,by go_num,hbq,ho2,hres2,hF3⟩
     case measure=>simp[intOf];omega
  ·obtain rfl:k=8:=by omega
   obtain rfl:l=bA t:=hF.out.fin
   have hlen:(bA t).length=64:=by simp[bA]
   have hs192:Hid ((nW (bA t)).size=192):=Lib.hid (by rw[mQ,hlen])
   have hone:(nW (bA t)).all (·.oneCell')=true:=by
    rw[←Array.all_toList,List.all_eq_true]
    intro u hu
    exact uA (bA t) u (by simpa[nW] using hu)
   clear hF hlen
   go_wp2_with (first | (refine dJ rfl 95 (.tmp 3) rfl (w.heap.size+2) 0 rfl (nW (bA t)).toList ho.rd _ Try.underlying95 rfl (by rw[Array.length_toList,hs192.out];exact arr64_size) ?_) | (refine ax rfl _ (.tmp 2) (.tmp 28) rfl (w.heap.size+1) (nW (bA t)) rfl rfl _ _ hres (by rw[hs192.out];rfl) (by rw[hs192.out];exact arr64_size) hone ?_))
   intro w5 hr5 hgr5
   have hbel5:Below w.heap.size w w5:=hbr.grown hgr5 hbr.size (fun k hk=>by cases hk;omega)
   go_wp2
   refine bodyPost_ret (v:=.agg (nW (bA t))) (bY Try.results45 _ _ (w.heap.size+1) _ _ _ rfl hr5 Try.underlying95 rfl (by rw[hs192.out];exact arr64_size)) rfl ?_
   exact⟨rfl,hbel5⟩
theorem kL.app {w w' : World} {B:Nat} {cs:Array Value} {t:Tb} (h:kL w B cs t) {q:Nat} (hq:q<8) {v v' : Value} {l:List En} (hv:cs[q]?=some v) (ho:Own w' B 67 3 v' l.length (l.flatMap gM)) (hgr:w.grownBy w' v.ownBlock)
  (hc:v'.ownBlock=v.ownBlock∨∀g,v'.ownBlock=some g→w.heap.size≤g):kL w' B (cs.setIfInBounds q v') (t.set q l) where
 sz:=by simp[h.sz]
 own:=fun k hk=>by
  by_cases e:k=q
  ·subst e
   exact⟨v',by rw[Array.getElem?_setIfInBounds_self_of_lt (by rw[h.sz];exact hk)],by simpa using ho⟩
  ·obtain⟨u,h1,h2⟩:=h.own k hk
   refine⟨u,by rw[Array.getElem?_setIfInBounds_ne (fun e2=>e e2.symm)];exact h1,?_⟩
   rw[Vector.getElem_set_ne hq hk (fun e2=>e e2.symm)]
   refine h2.grown hgr fun g hg he => ?_
   rcases Nat.lt_or_gt_of_ne e with hlt|hlt
   ·exact h.apart k q u v hlt h1 hv g hg he
   ·exact h.apart q k v u hlt hv h1 g he hg
 apart:=fun j k x y hjk hx hy g hgx hgy=>by
  have key:∀j u,j≠q→cs[j]?=some u→v'.ownBlock=some g→u.ownBlock=some g→False:=by
   intro j u hjq hu hg hgu
   have hj8:j<8:=by
    rcases Nat.lt_or_ge j 8 with hk|hk
    ·exact hk
    ·rw[Array.getElem?_eq_none (by rw[h.sz];exact hk)] at hu;cases hu
   obtain⟨u',h1,h2⟩:=h.own j hj8
   rw[hu] at h1
   cases h1
   rcases hc with hc|hc
   ·rw[hc] at hg
    rcases Nat.lt_or_gt_of_ne hjq with hlt|hlt
    ·exact h.apart j q u v hlt hu hv g hgu hg
    ·exact h.apart q j v u hlt hv hu g hg hgu
   ·have h3:=hc g hg
    have h4:=CV h2 g hgu
    omega
  by_cases e:j=q
  ·subst e
   rw[Array.getElem?_setIfInBounds_self_of_lt (by rw[h.sz];exact hq)] at hx
   cases hx
   rw[Array.getElem?_setIfInBounds_ne (by omega)] at hy
   exact key k y (by omega) hy hgx hgy
  ·rw[Array.getElem?_setIfInBounds_ne (fun e2=>e e2.symm)] at hx
   by_cases e2:k=q
   ·subst e2
    rw[Array.getElem?_setIfInBounds_self_of_lt (by rw[h.sz];exact hq)] at hy
    cases hy
    exact key j x e hx hgy hgx
   ·rw[Array.getElem?_setIfInBounds_ne (fun e3=>e2 e3.symm)] at hy
    exact h.apart j k x y hjk hx hy g hgx hgy
theorem Ie {w:World} {b:Nat} {l:List En} {T:TypeId} (h:aB w b (nW l) T) {k:Nat} {E:En} (hE:l[k]?=some E):bZ w (some ⟨b,k*3,none⟩) (gM E):=by
 intro i u hi
 refine⟨b,k*3,rfl,?_⟩
 rw[h.cell]
 have hk:k<l.length:=(List.getElem?_eq_some_iff.1 hE).1
 have hl:l[k]=E:=(List.getElem?_eq_some_iff.1 hE).2
 have:=flat_get gM 3 dx l k hk i u (by rw[hl];exact hi)
 simpa[nW] using this
theorem Dm (l:List En) (w:World) (hl:l.length=64):Calls Try.prog 34 #[.agg (nW l)] w fun r w' => ∃cs,r = .returned (.agg cs)∧kL w' w.heap.size cs (dI l)∧Below w.heap.size w w':=by
 have HLEN:=Lib.hid hl
 clear hl
 go_enter Try.func34,Try.ntmps34
 go_upto_region 2 with (fail)
 refine JD (fun W=>Code.wp _ _ _ _ W) fun W0 hb0 hx0 hres0 ho0 hs0 => ?_
 clear hs0
 have hO0:kL W0 w.heap.size #[.slice none 0 0,.slice none 0 0,.slice none 0 0,.slice none 0 0,.slice none 0 0,.slice none 0 0,.slice none 0 0,.slice none 0 0] zTb:=nX _ _
 have hT0:Hid (yA l 0 [] zTb):=Lib.hid yA.start
 go_wp2
 go_loopw [8] (fun i wr => ∃(k:Nat) (ca:Array Value) (t:Tb),k≤8∧i = .int .i64 k∧Below w.heap.size w wr∧aB wr w.heap.size (nW l) 95∧aB wr (w.heap.size+1) #[.slice none 0 0,.slice none 0 0,.slice none 0 0,.slice none 0 0,.slice none 0 0,.slice none 0 0,.slice none 0 0,.slice none 0 0] 63∧aB wr (w.heap.size+2) ca 63∧kL wr w.heap.size ca t∧Hid (yA l k [] t)) (fun i _=>8-(intOf i).toNat)
 case atStart=>exact⟨0,_,_,Nat.zero_le _,rfl,hb0,hx0,hres0,ho0,hO0,hT0⟩
 case round=>
  obtain⟨k,ca,t,hk,rfl,hbr,hx,hres,ho,hO,hT⟩:=hrel
  clear hb0 hx0 hres0 ho0 hO0 hT0
  by_cases hlt:k<8
  ·have hd8:decide ((k:Int)<8)=true:=by simp;omega
   go_wp2
   go_loopw [6,5] (fun i s wr' => ∃(j:Nat),j≤8∧i = .int .i64 j∧s = .bool (qf l k j)∧wr' = wr) (fun i _ _=>8-(intOf i).toNat)
   case atStart=>exact⟨0,Nat.zero_le _,rfl,rfl,rfl⟩
   case round=>
    obtain⟨j,hj,rfl,rfl,rfl⟩:=hrel
    by_cases hjl:j<8
    ·have hd9:decide ((j:Int)<8)=true:=by simp;omega
     obtain⟨E,hE,hP⟩:=Bf HLEN.out hlt hjl
     have hcE:=(Ie hx hE) 0 (.int .i64 E.k) rfl
     obtain⟨_,_,e1,hc0⟩:=hcE
     simp only[Option.some.injEq,Addr.mk.injEq,and_true] at e1
     obtain⟨rfl,rfl⟩:=e1
     rw[Nat.add_zero] at hc0
     have hm1:(8:Int)*(k:Int)+(j:Int)<64:=by omega
     have hst:Hid (qf l k (j+1)=(qf l k j||decide (0<E.k))):=Lib.hid (by unfold qf;rw[hP,List.any_append];simp[zn])
     clear hE hP
     cases hs:qf l k j
     all_goals
      rw[hs] at hst
      go_wp2
      go_roundw
      case rel=>exact⟨j+1,by omega,by go_num,by rw[hst.out];first | rfl | (congr 1;rw[Bool.eq_iff_iff];simp),trivial⟩
      case measure=>simp[intOf];omega
    ·obtain rfl:j=8:=by omega
     rw[show ((8:Nat):Int)=8 from rfl]
     cases hsome:qf l k 8
     ·have hhalf:=Lib.hid (Kg hsome)
      clear hsome
      go_wp2
      go_loopw [7] (fun i wr'=>i = .int .i64 0∧wr' = wr) (fun _ _=>0)
      case atStart=>exact⟨rfl,rfl⟩
      case round=>
       obtain⟨rfl,rfl⟩:=hrel
       have hTn:Hid (yA l (k+1) [] t):=Lib.hid (yA.next (by rw[hhalf.out];exact hT.out) hlt)
       go_wp2
       go_roundw
       case rel=>exact⟨k+1,ca,t,by omega,by go_num,hbr,hx,hres,ho,hO,hTn⟩
       case measure=>simp[intOf];omega
     ·have hhalf:=Lib.hid (Ja hsome)
      clear hsome
      have hT0:Hid (yA l k ((l.drop (8*k)).take 0) t):=hT
      go_wp2
      go_loopw [7] (fun i wr' => ∃(j:Nat) (ca' : Array Value) (t' : Tb),j≤8∧i = .int .i64 j∧Below w.heap.size w wr'∧aB wr' w.heap.size (nW l) 95∧aB wr' (w.heap.size+1) #[.slice none 0 0,.slice none 0 0,.slice none 0 0,.slice none 0 0,.slice none 0 0,.slice none 0 0,.slice none 0 0,.slice none 0 0] 63∧aB wr' (w.heap.size+2) ca' 63∧kL wr' w.heap.size ca' t'∧Hid (yA l k ((l.drop (8*k)).take j) t')) (fun i _=>8-(intOf i).toNat)
      case atStart=>exact⟨0,ca,t,Nat.zero_le _,rfl,hbr,hx,hres,ho,hO,hT0⟩
      case round=>
       obtain⟨j,ca',t',hj,rfl,hbr2,hx2,hres2,ho2,hO2,hT2⟩:=hrel
       clear hbr hx hres ho hO hT hT0
       by_cases hjl:j<8
       ·have hd9:decide ((j:Int)<8)=true:=by simp;omega
        obtain⟨E,hE,hP⟩:=Bf HLEN.out hlt hjl
        have hrE:=Ie hx2 hE
        have hm1:(8:Int)*(k:Int)+(j:Int)<64:=by omega
        have hm0:¬(8:Int)*(k:Int)+(j:Int)<0:=by omega
        have hk8:(k:Int)<8:=by omega
        have hmul:IntKind.i64.wrap (8*(k:Int))=8*(k:Int):=IntWalk.i64_in _ (by omega)
        have hadd:IntKind.i64.wrap (8*(k:Int)+(j:Int))=8*(k:Int)+(j:Int):=IntWalk.i64_in _ (by omega)
        have hnn:(8*(k:Int)+(j:Int)).toNat=8*k+j:=by omega
        have hP':=Lib.hid hP
        obtain⟨v,hv,hown⟩:=hO2.own k hlt
        have hv':=Lib.hid hv
        have hpl:t'[k].length=j:=by rw[hT2.out.at' hlt];exact xw HLEN.out hlt (by omega)
        obtain⟨xa,xc,rfl,hxle,hxmx,hxnil,hxrd⟩:=hown.rd
        have HE:=Lib.hid hE
        clear hE hP hv
        go_upto_region 13 with (fail)
        refine AB 11 12 [(0,.int .i64 k)] [anyR,nN (.int .i64 k),nN (.pointer (some ⟨w.heap.size+2,k,none⟩)),nN (.slice xa t'[k].length xc),nN (.int .i64 k),nN (.int .i64 (8*(k:Int))),nN (.int .i64 j),nN (.int .i64 (8*(k:Int)+(j:Int))),nN (.pointer (some ⟨w.heap.size,(8*k+j)*3,none⟩)),nN (.agg (fA E)),(NG 1 (gM E))] (by kernel_rfl) (by kernel_rfl) (by kernel_rfl) (by kernel_rfl) (by kernel_rfl) (by kernel_rfl) (by decide) (by decide) _ rfl (by kernel_rfl) (all_cons ?_ (all_cons ?_ (all_cons ?_ (all_cons ?_ (all_cons ?_ (all_cons ?_ (all_cons ?_ (all_cons ?_ (all_cons ?_ (all_cons ?_ (all_cons ?_ (all_nil)))))))))))) (all_nil) rfl ?_
        ·refine EO rfl ?_
         intro ρ y W hw hn hV
         have E4:ρ (.tmp 4) = .int .i64 k:=(hn (.tmp 4) rfl).trans rfl
         exact⟨(ag rfl),(run_move (.inl rfl) E4)⟩
        ·refine aW rfl ?_
         intro ρ y W hw hn hb hd
         have E4:ρ (.tmp 4) = .int .i64 k:=(hn (.tmp 4) rfl).trans rfl
         refine ah (.int .i64 k) (ag rfl) (run_move (.inl rfl) E4) rfl
        ·refine aW rfl ?_
         intro ρ y W hw hn hb hd
         have E3:ρ (.tmp 3) = .pointer (some ⟨w.heap.size+2,0,none⟩):=(hn (.tmp 3) rfl).trans rfl
         have E34:=hw 34 1 rfl
         have h1:y 1 = .int .i64 k:=hd 1 rfl
         refine ah (.pointer (some ⟨w.heap.size+2,k,none⟩)) (ag rfl) (by simp[execOp,go_sem,E3,E34,h1,Try.underlying63,hk8]) rfl
        ·refine aW rfl ?_
         intro ρ y W hw hn hb hd
         have E35:=hw 35 2 rfl
         have h2:y 2 = .pointer (some ⟨w.heap.size+2,k,none⟩):=hd 2 rfl
         refine ah (.slice xa t'[k].length xc) (ag rfl) (by simp[execOp,go_sem,E35,h2,(((ho2.ext hb).cell k).trans hv'.out),Try.underlying61]) rfl
        ·refine aW rfl ?_
         intro ρ y W hw hn hb hd
         have E4:ρ (.tmp 4) = .int .i64 k:=(hn (.tmp 4) rfl).trans rfl
         refine ah (.int .i64 k) (ag rfl) (run_move (.inl rfl) E4) rfl
        ·refine aW rfl ?_
         intro ρ y W hw hn hb hd
         have E37:=hw 37 4 rfl
         have h4:y 4 = .int .i64 k:=hd 4 rfl
         have EC:∀v,ρ (.const v)=v:=fun v=>hn (.const v) trivial
         refine ah (.int .i64 (8*(k:Int))) (ag rfl) (by simp[execOp,go_sem,E37,h4,EC,hmul]) rfl
        ·refine aW rfl ?_
         intro ρ y W hw hn hb hd
         have E7:ρ (.tmp 7) = .int .i64 j:=(hn (.tmp 7) rfl).trans rfl
         refine ah (.int .i64 j) (ag rfl) (run_move (.inl rfl) E7) rfl
        ·refine aW rfl ?_
         intro ρ y W hw hn hb hd
         have E38:=hw 38 5 rfl
         have h5:y 5 = .int .i64 (8*(k:Int)):=hd 5 rfl
         have E39:=hw 39 6 rfl
         have h6:y 6 = .int .i64 j:=hd 6 rfl
         refine ah (.int .i64 (8*(k:Int)+(j:Int))) (ag rfl) (by simp[execOp,go_sem,E38,h5,E39,h6,hadd]) rfl
        ·refine aW rfl ?_
         intro ρ y W hw hn hb hd
         have E1:ρ (.tmp 1) = .pointer (some ⟨w.heap.size,0,none⟩):=(hn (.tmp 1) rfl).trans rfl
         have E40:=hw 40 7 rfl
         have h7:y 7 = .int .i64 (8*(k:Int)+(j:Int)):=hd 7 rfl
         refine ah (.pointer (some ⟨w.heap.size,(8*k+j)*3,none⟩)) (ag rfl) (by simp[execOp,go_sem,E1,E40,h7,Try.underlying95,hm1,hm0,hnn]) rfl
        ·refine aW rfl ?_
         intro ρ y W hw hn hb hd
         have E41:=hw 41 8 rfl
         have h8:y 8 = .pointer (some ⟨w.heap.size,(8*k+j)*3,none⟩):=hd 8 rfl
         refine ah (.agg (fA E)) (ag rfl) (bN rfl (E41.trans h8) (vs:=gM E) (hrE.below hb) Try.underlying67 rfl entry_size) rfl
        ·refine aW rfl ?_
         intro ρ y W hw hn hb hd
         have E42:=hw 42 9 rfl
         have h9:y 9 = .agg (fA E):=hd 9 rfl
         refine jb (.slice (some ⟨W.heap.size,0,none⟩) 1 1) (ag rfl) (by simp[execOp,go_sem,E42,h9,fA]) ((Below.refl _ _).alloc (Nat.le_refl _) (.cells (fA E) 67)) ?_
         exact⟨_,_,rfl,Nat.le_refl _,by unfold maxLen;omega,fun e=>(by cases e),bZ.new _ _ _⟩
        intro ρ y WA o ho hw hn hV hbWA hRWA
        cases ho
        have hy0:y 0 = .int .i64 k:=hV 0 _ rfl
        have hy1:y 1 = .int .i64 k:=hRWA 1 (by decide)
        have hy2:y 2 = .pointer (some ⟨w.heap.size+2,k,none⟩):=hRWA 2 (by decide)
        have hy3:y 3 = .slice xa t'[k].length xc:=hRWA 3 (by decide)
        have hy4:y 4 = .int .i64 k:=hRWA 4 (by decide)
        have hy5:y 5 = .int .i64 (8*(k:Int)):=hRWA 5 (by decide)
        have hy6:y 6 = .int .i64 j:=hRWA 6 (by decide)
        have hy7:y 7 = .int .i64 (8*(k:Int)+(j:Int)):=hRWA 7 (by decide)
        have hy8:y 8 = .pointer (some ⟨w.heap.size,(8*k+j)*3,none⟩):=hRWA 8 (by decide)
        have hy9:y 9 = .agg (fA E):=hRWA 9 (by decide)
        obtain⟨ya10,yc10,hy10,yle10,ymx10,ynil10,yrd10⟩:=hRWA 10 (by decide)
        have E36:=hw 36 3 rfl
        rw[hy3] at E36
        have E43:=hw 43 10 rfl
        rw[hy10] at E43
        have EC:∀v,ρ (.const v)=v:=fun v=>hn (.const v) trivial
        have EF:∀f,ρ (.func f) = .func (.func f) #[] #[]:=fun f=>hn (.func f) trivial
        refine yV (ag rfl) (gD (.tmp 36) (.tmp 43) 61 rfl w.heap.size 67 _ 3 24 Try.underlying61 entry_info rfl (by decide) _ _ _ E36 (hown.below hbWA) ya10 1 yc10 (gM E) E43 ynil10 yle10 rfl yrd10 (wQ E) (by unfold maxLen;omega) (by omega) (Nat.le_trans hbr2.size hbWA.size)) ?_
        rintro v2 w4 ⟨hown4,hgr4,hcase4⟩
        clear hRWA hw hn hV
        simp only[lay,Nat.reduceAdd,Nat.reduceLT,Nat.reduceEqDiff,reduceIte,decide_true,decide_false,if_true,Bool.false_eq_true,if_false,List.setIfInBounds_toArray,List.set_cons_zero,List.set_cons_succ,List.drop_succ_cons,List.drop_zero,List.drop_nil,hy0,hy1,hy2,hy3,hy4,hy5,hy6,hy7,hy8,hy9,hy10]
        clear hy0 hy1 hy2 hy3 hy4 hy5 hy6 hy7 hy8 hy9 hy10
        have hbelA:=ae hbr2 hbWA
        have hownA:=hown.below hbWA
        have ho4:=jv (ho2.ext hbWA) hownA (by decide) hgr4
        have hx4:=jv (hx2.ext hbWA) hownA (by decide) hgr4
        have hres4:=jv (hres2.ext hbWA) hownA (by decide) hgr4
        have hbel4:=hbelA.grown hgr4 hbelA.size (fun k hk=>hownA.ge k hk)
        have hown5:Own w4 w.heap.size 67 3 v2 (t'[k]++[E]).length ((t'[k]++[E]).flatMap gM):=by
         rw[List.length_append,List.flatMap_append]
         simpa using hown4
        have hO4:=(hO2.below hbWA).app hlt hv'.out hown5 hgr4 hcase4
        have hT3:Hid (yA l k ((l.drop (8*k)).take (j+1)) (t'.set k (t'[k]++[E]))):=Lib.hid (by
         have:=hT2.out.set (h2:=(l.drop (8*k)).take (j+1)) hlt
         have e:t'[k]++[E]=(l.drop (8*k)).take (j+1):=by rw[hP'.out,hT2.out.at' hlt]
         rw[e]
         exact this)
        have hsz2:=hO2.sz
        have hone2:∀u∈[v2],u.oneCell' = true:=by
         obtain⟨_,_,rfl,_⟩:=hown4.rd
         intro u hu
         cases List.mem_singleton.1 hu
         rfl
        have hcv2:(v2.cells.toList:List Value)=[v2]:=by
         obtain⟨_,_,rfl,_⟩:=hown4.rd
         rfl
        clear hbelA hownA hown4 hown5 hcase4 hgr4 hbWA hx2 hres2 ho2 hO2 hT2 hown hrE hbr2 yrd10
        go_wp2_with (refine ay rfl _ (.tmp 45) (.tmp 44) rfl (w.heap.size+2) k _ [v2] rfl rfl hcv2 _ _ ho4 (by rw[hsz2];exact hlt) slent_size hone2 ?_)
        intro w5 ho5 hgr5
        rw[iZ] at ho5
        have hO5:=hO4.keep ho4 (by decide) hgr5
        have hx5:=bq hx4 ho4 (by decide) hgr5
        have hres5:aB w5 (w.heap.size+1) _ _:=hres4.grown hgr5 (fun e=>by have:=Option.some.inj e;omega)
        have hbel5:=hbel4.grown hgr5 hbel4.size (fun k hk=>by cases hk;omega)
        clear ho4 hx4 hres4 hbel4 hO4 hgr5
        go_wp2
        go_roundw
        case rel=>exact⟨j+1,_,_,by omega,by go_num,hbel5,hx5,hres5,ho5,hO5,hT3⟩
        case measure=>simp[intOf];omega
       ·obtain rfl:j=8:=by omega
        have hTn:Hid (yA l (k+1) [] t'):=Lib.hid (yA.next (by rw[hhalf.out];exact hT2.out) hlt)
        go_wp2
        go_roundw
        case rel=>exact⟨k+1,ca',t',by omega,by go_num,hbr2,hx2,hres2,ho2,hO2,hTn⟩
        case measure=>simp[intOf];omega
  ·obtain rfl:k=8:=by omega
   have hfin:=hT.out.fin
   have hone:=hO.rd.one
   have hsz:=hO.sz
   rw[hfin] at hO
   clear hfin
   go_wp2_with (first | (refine dJ rfl 63 (.tmp 3) rfl (w.heap.size+2) 0 rfl ca.toList ho.rd _ Try.underlying63 tab_agg (by rw[Array.length_toList,hsz];exact tab_size) ?_) | (refine ax rfl _ (.tmp 2) (.tmp 47) rfl (w.heap.size+1) ca rfl rfl _ _ hres (by rw[hsz];rfl) (by rw[hsz];exact tab_size) hone ?_))
   intro w5 hr5 hgr5
   have hO5:=hO.keep hres (by decide) hgr5
   have hbel5:Below w.heap.size w w5:=hbr.grown hgr5 hbr.size (fun k hk=>by cases hk;omega)
   go_wp2
   refine bodyPost_ret (v:=.agg ca) (bY Try.results34 _ _ (w.heap.size+1) _ _ _ rfl hr5 Try.underlying63 rfl (by rw[hsz];exact tab_size)) rfl ?_
   exact⟨_,rfl,hO5,hbel5⟩
def KN (b:Bool):List Value:=[.bool b]
theorem yR (b:Bool):(KN b).length=1:=rfl
theorem bool_info:(Try.prog.info? 4).map (fun i=>(i.zero,i.size,i.bytes))=some (some (.bool false),1,1):=by kernel_rfl
theorem bool_sz:(Try.prog.info? 4).map (·.size)=some 1:=by kernel_rfl
theorem Lv (b:Bool):∀u∈[Value.bool b],u.oneCell' = true:=by intro u hu;cases List.mem_singleton.1 hu;rfl
theorem Mk {w:World} {b off:Nat} {l:List Bool} (h:bZ w (some ⟨b,off,none⟩) (l.flatMap KN)) (i:Nat) (x:Bool) (hx:l[i]?=some x):w.cell? ⟨b,off+i,none⟩=some (.bool x):=by
 have hi:=(List.getElem?_eq_some_iff.1 hx).1
 obtain⟨b',off',e,hc⟩:=h.elem yR (by decide) i hi
 cases e
 have:=hc 0 (.bool x) (by rw[(List.getElem?_eq_some_iff.1 hx).2];rfl)
 simpa using this
theorem zZ (ps:List PF) (k:Int) (a:Option Addr) (c:Nat) (w:World) (h:EL w a c ps) (hk64 : -9223372036854775808≤k∧k≤9223372036854775807) :
  Calls Try.prog 88 #[.agg (JF a ps.length c k)] w fun r w'=>r = .returned (.int .i64 (aP (dW ps k)))∧Below w.heap.size w w':=by
 have hlc:=Nat.le_trans h.le h.mx
 unfold maxLen at hlc
 unfold JF
 go_enter Try.func88,Try.ntmps88
 go_upto_region 1 with (fail)
 refine eP (fun W=>Code.wp _ _ _ _ W) fun W0 hb0 hx0 hs0 => ?_
 clear hs0
 by_cases h4:5<ps.length∨k<0∨80<k
 ·have hfin:Hid (aP (dW ps k)=4):=Lib.hid (by unfold aP dW;rw[if_pos (by simpa using h4)])
  have hcx:=hx0.cell
  have h4' : 5<ps.length∨(¬5<ps.length∧k<0)∨(¬5<ps.length∧¬k<0∧80<k):=by omega
  clear h4
  rcases h4' with g|⟨g,g2⟩|⟨g,g2,g3⟩
  all_goals
   go_wp2
   go_ret
   exact⟨aO hfin.out.symm,hb0⟩
 ·have hres:Hid (aP (dW ps k)=jh k (((ps.take 0).map PF.fi).flatMap Fi.b) ((ps.drop 0).map PF.fi)):=Lib.hid (by unfold aP dW;rw[if_neg (by simpa using h4)];rfl)
  have g1:¬5<ps.length:=by omega
  have g2:¬k<0:=by omega
  have g3:¬80<k:=by omega
  have hcx:=hx0.cell
  clear h4
  obtain⟨N,hN⟩:∃N:Nat,k=(N:Int):=⟨k.toNat,by omega⟩
  subst hN
  have hN80:N≤80:=by omega
  go_upto_region 4 with (refine yJ _ rfl _ _ _ rfl KN 4 _ 1 1 false yR (by decide) Try.underlying138 bool_info rfl .i64 .i64 N N N rfl rfl rfl rfl (by omega) (by unfold maxLen;omega) ?_)
  clear hcx
  intro W1 hM1 hgr1
  have hb1:Below W0.heap.size W0 W1:=fF hgr1
  have hbel1:=ae hb0 hb1
  have hx1:=hx0.ext hb1
  have hM1' : Own W1 w.heap.size 4 1 (.slice (some ⟨W0.heap.size,0,none⟩) N N) N ((oJ N (((ps.take 0).map PF.fi).flatMap Fi.b)).flatMap KN):=by simp only[List.take_zero,List.map_nil,List.flatMap_nil];rw[HY];exact hM1.mono hb0.size
  obtain⟨gm,hGM⟩:∃g,g=W0.heap.size:=⟨_,rfl⟩
  rw[←hGM] at hM1' ⊢
  clear hGM hb0 hx0 hb1 hM1 hgr1
  have hcx:=hx1.cell
  go_upto_region 5 with (fail)
  clear hcx
  go_loopw [28] (fun i wr => ∃(q:Nat),q≤ps.length∧i = .int .i64 q∧Below w.heap.size w wr∧aB wr w.heap.size #[.slice a ps.length c,.int .i64 (N:Int)] 36∧Own wr w.heap.size 4 1 (.slice (some ⟨gm,0,none⟩) N N) N ((oJ N (((ps.take q).map PF.fi).flatMap Fi.b)).flatMap KN)∧Hid (aP (dW ps N)=jh N (((ps.take q).map PF.fi).flatMap Fi.b) ((ps.drop q).map PF.fi))) (fun i _=>ps.length-(intOf i).toNat)
  case atStart=>exact⟨0,Nat.zero_le _,rfl,hbel1,hx1,hM1',hres⟩
  case round=>
   clear hbel1 hx1 hM1' hres
   obtain⟨q,hq,rfl,hbr,hx,hM,hres⟩:=hrel
   by_cases hlt:q<ps.length
   ·obtain⟨b,off,p,rfl,hp,c0,c1⟩:=xV (h.below hbr).rd q hlt
    have hgw:=h.good p (List.mem_of_getElem? hp)
    have hgood:=hgw.below hbr
    have hdr:=drop_at hp
    have htk:=take_at hp
    rw[hdr,List.map_cons] at hres
    have htk':=Lib.hid htk
    clear hdr htk
    generalize hseen:((ps.take q).map PF.fi).flatMap Fi.b=seen at hM hres
    have hseen':=Lib.hid hseen
    clear hseen hp
    go_wp2_with (refine aD rfl _ _ _ rfl (jM p) rfl rfl rfl file_size (kr _) ?_)
    intro w2 hb2 hf2
    have hbel2:=ae hbr hb2
    have hx2:=hx.ext hb2
    have hM2:=hM.below hb2
    have hgood2:=hgood.below hb2
    clear hbr hx hM hgood hb2 c0 c1
    have hcf:=hf2.cell
    have f0:(jM p)[0]?=some (.int .i64 p.n):=rfl
    have f1:(jM p)[1]?=some (.slice p.a p.l.length p.c):=rfl
    by_cases hn96:p.n<0∨96<p.n
    ·have hfin:Hid (aP (dW ps N)=3):=Lib.hid (by rw[hres.out,mV,if_pos hn96])
     have hn' : p.n<0∨(¬p.n<0∧96<p.n):=by omega
     clear hn96
     rcases hn' with g|⟨g,g2⟩
     all_goals
      go_wp2
      go_ret
      exact⟨aO hfin.out.symm,hbel2⟩
    ·have hres2:Hid (aP (dW ps N)=if (p.l.length:Int)≠dh p.n then 2 else if dL N seen p.l≠0 then dL N seen p.l else jh N (seen++p.l) ((ps.drop (q+1)).map PF.fi)):=Lib.hid (by rw[hres.out,mV,if_neg hn96])
     have g4:¬p.n<0:=by omega
     have g5:¬96<p.n:=by omega
     clear hn96 hres
     by_cases hcnt:(p.l.length:Int)=dh p.n
     ·have hres3:Hid (aP (dW ps N)=if dL N seen p.l≠0 then dL N seen p.l else jh N (seen++p.l) ((ps.drop (q+1)).map PF.fi)):=Lib.hid (by rw[hres2.out,if_neg (fun hh=>hh hcnt)])
      have hl12:p.l.length≤12:=by
       have:=sS (n:=p.n) (by omega)
       omega
      have hcc:=Lib.hid hcnt
      clear hres2 hcnt
      go_upto_region 9 with (fail)
      refine aC 7 [_,_,_,_,_,.v (.int .i64 (dh p.n)),_] (Gf wr.heap.size 1 rfl rfl (Gl hf2 (V:=.slice p.a p.l.length p.c) (by simp[f1,Try.underlying28]) rfl rfl rfl rfl (Gn rfl rfl rfl rfl (Gf wr.heap.size 0 rfl rfl (Gl hf2 (V:=.int .i64 p.n) (by simp[f0]) rfl rfl rfl rfl (all_cons ?_ (Gb (.bool false) (by simp[go_sem,hcc.out]) rfl rfl rfl rfl rfl (all_nil))))) (Try.underlying28)))) (fun _=>rfl) rfl ?_
      ·intro ρ y W hw hn hb hd;have E44:=hw 44 4 rfl;have h4:y 4=_:=hd 4 rfl
       have EF:∀f,ρ (.func f) = .func (.func f) #[] #[]:=fun f=>hn (.func f) trivial
       refine aG _ _ (ag rfl) (aK rfl (EF _) Try.func29 (by kernel_rfl) (by kernel_rfl) (by simp only[List.map_toArray,List.map_cons,List.map_nil,E44,h4,EF];rfl)) ?_
       refine (qA p.n W (by omega)).mono ?_
       rintro e w1 ⟨rfl,rfl⟩
       exact⟨_,rfl,Below.refl _ _,rfl⟩
      intro y WA hbWA _
      have hbelA:=ae hbel2 hbWA
      have hxA:=hx2.ext hbWA
      have hMA:=hM2.below hbWA
      have hfA:=hf2.ext hbWA
      have hgA:=hgood2.below hbWA
      clear hbel2 hx2 hM2 hf2 hgood2 hbWA hcf
      have hcf:=hfA.cell
      have hB0:Hid (dL N seen p.l=dL N (seen++p.l.take 0) (p.l.drop 0)):=Lib.hid (by simp)
      have hM0:Own WA w.heap.size 4 1 (.slice (some ⟨gm,0,none⟩) N N) N ((oJ N (seen++p.l.take 0)).flatMap KN):=by simpa using hMA
      have hle:=hgA.le
      have hmx:=hgA.mx
      have hrdp:=hgA.rd
      unfold maxLen at hmx
      clear hMA hgA
      go_upto_region 12 with (fail)
      clear hcf f0 f1 hfA
      go_loopw [50] (fun i wr => ∃(j:Nat),j≤p.l.length∧i = .int .i64 j∧Below w.heap.size w wr∧aB wr w.heap.size #[.slice (some ⟨b,off,none⟩) ps.length c,.int .i64 (N:Int)] 36∧Own wr w.heap.size 4 1 (.slice (some ⟨gm,0,none⟩) N N) N ((oJ N (seen++p.l.take j)).flatMap KN)∧bZ wr p.a (p.l.map dE)∧Hid (dL N seen p.l=dL N (seen++p.l.take j) (p.l.drop j))) (fun i _=>p.l.length-(intOf i).toNat)
      case atStart=>exact⟨0,Nat.zero_le _,rfl,hbelA,hxA,hM0,hrdp,hB0⟩
      case round=>
       clear hbelA hxA hM0 hrdp hB0
       obtain⟨j,hj,rfl,hbr,hx,hM,hrp,hB⟩:=hrel
       by_cases hjl:j<p.l.length
       ·obtain⟨x,hX⟩:∃x,p.l[j]?=some x:=⟨p.l[j],List.getElem?_eq_getElem hjl⟩
        obtain⟨b2,off2,hpa,hc⟩:=jo hrp j hjl
        rw[show p.l[j]=x from (List.getElem?_eq_some_iff.1 hX).2] at hc
        have hdr:=drop_at hX
        have htk:=take_at hX
        rw[hdr,nk] at hB
        rw[hpa]
        generalize hs2:seen++p.l.take j=seen2 at hB hM
        have htk2:Hid (seen++p.l.take (j+1)=seen2++[x]):=Lib.hid (by rw[htk,←List.append_assoc,hs2])
        have hrp':=Lib.hid hrp
        have hpa':=Lib.hid hpa
        have hcx:=hx.cell
        clear hX hdr htk hs2 hrp hpa
        have hjl' : (j:Int)<(p.l.length:Int):=by omega
        by_cases hr3:x < -1∨(N:Int)≤x
        ·have hfin:Hid (aP (dW ps N)=3):=Lib.hid (by rw[hres3.out,hB.out,if_pos hr3];rfl)
         have hr3' : x < -1∨(¬x < -1∧(N:Int)≤x):=by omega
         clear hr3
         rcases hr3' with g6|⟨g6,g7⟩
         all_goals
          go_wp2
          go_ret
          exact⟨aO hfin.out.symm,hbr⟩
        ·have g6:¬x < -1:=by omega
         have g7:¬(N:Int)≤x:=by omega
         have hB2:Hid (dL N seen p.l=if 0≤x∧x∈seen2 then 7 else dL N (seen2++[x]) (p.l.drop (j+1))):=Lib.hid (by rw[hB.out,if_neg hr3])
         clear hB hr3
         by_cases hx0:x<0
         ·have e1:x = -1:=by omega
          have hB3:Hid (dL N seen p.l=dL N (seen++p.l.take (j+1)) (p.l.drop (j+1))):=Lib.hid (by rw[hB2.out,if_neg (by omega),htk2.out])
          have hM3:Own wr w.heap.size 4 1 (.slice (some ⟨gm,0,none⟩) N N) N ((oJ N (seen++p.l.take (j+1))).flatMap KN):=by rw[htk2.out,GY _ _ _ hx0];exact hM
          have hrp3:bZ wr (some ⟨b2,off2,none⟩) (p.l.map dE):=by rw[←hpa'.out];exact hrp'.out
          clear hB2 hM
          go_wp2
          go_roundw
          case rel=>exact⟨j+1,by omega,by go_num,hbr,hx,hM3,hrp3,hB3⟩
          case measure=>simp[intOf];omega
         ·obtain⟨X,hXX⟩:∃X:Nat,x=(X:Int):=⟨x.toNat,by omega⟩
          subst hXX
          have hXN:X<N:=by omega
          have hXN' : (X:Int)<(N:Int):=by omega
          obtain⟨_,_,hve,_,_,_,hMr⟩:=hM.rd
          simp only[Value.slice.injEq] at hve
          obtain⟨rfl,_,rfl⟩:=hve
          have hcb:=Mk hMr X (decide ((X:Int)∈seen2)) (zx N seen2 X hXN)
          rw[Nat.zero_add] at hcb
          clear hMr
          by_cases h7:(X:Int)∈seen2
          ·have hfin:Hid (aP (dW ps N)=7):=Lib.hid (by rw[hres3.out,hB2.out,if_pos (show 0≤(X:Int)∧(X:Int)∈seen2 from ⟨by omega,h7⟩)];rfl)
           rw[decide_eq_true h7] at hcb
           clear h7 hB2
           go_wp2
           go_ret
           exact⟨aO hfin.out.symm,hbr⟩
          ·have hB3:Hid (dL N seen p.l=dL N (seen++p.l.take (j+1)) (p.l.drop (j+1))):=Lib.hid (by rw[hB2.out,if_neg (fun hh=>h7 hh.2),htk2.out])
           rw[decide_eq_false h7] at hcb
           clear h7 hB2
           obtain⟨g3,off3,cap3,cur3,hve,hBg3,hbg3,hfit3,hset3⟩:=oL yR (by decide) (sK N seen2) hM X hXN
           cases hve
           go_wp2_with (refine ay rfl _ _ _ rfl gm X _ [.bool true] rfl rfl rfl cur3 4 hbg3 (by simpa using hfit3) bool_sz (Lv true) ?_)
           intro w6 hb6 hgr6
           have hM6:=hset3 w6 true (by rw[Nat.zero_add,Nat.mul_one];exact hb6)
           rw[Jr _ _ _ hXN,←htk2.out] at hM6
           have hbel6:=hbr.grown hgr6 hbr.size (fun k hk=>by cases hk;exact hBg3)
           have hx6:=bq hx hbg3 (by decide) hgr6
           have hrp6:bZ w6 (some ⟨b2,off2,none⟩) (p.l.map dE):=by
            have h9:=hgw.rd.below hbel6
            rw[hpa'.out] at h9
            exact h9
           clear hbr hx hM hgr6 hcx hc hset3 hbg3 hb6 hcb hfit3
           go_wp2
           go_roundw
           case rel=>exact⟨j+1,by omega,by go_num,hbel6,hx6,hM6,hrp6,hB3⟩
           case measure=>simp[intOf];omega
       ·have hfin:Hid (aP (dW ps N)=jh N (((ps.take (q+1)).map PF.fi).flatMap Fi.b) ((ps.drop (q+1)).map PF.fi)):=Lib.hid (by
         have e0:dL N seen p.l=0:=by rw[hB.out,List.drop_eq_nil_of_le (by omega)];rfl
         rw[hres3.out,if_neg (fun hh=>hh e0),htk'.out,List.map_append,List.flatMap_append,hseen'.out]
         simp[PF.fi])
        have hMq:Own wr w.heap.size 4 1 (.slice (some ⟨gm,0,none⟩) N N) N ((oJ N (((ps.take (q+1)).map PF.fi).flatMap Fi.b)).flatMap KN):=by
         rw[List.take_of_length_le (by omega)] at hM
         rw[htk'.out,List.map_append,List.flatMap_append,hseen'.out]
         simpa[PF.fi] using hM
        have hjl' : ¬(j:Int)<(p.l.length:Int):=by omega
        clear hM hB hres3
        go_wp2
        go_roundw
        case rel=>exact⟨q+1,by omega,by go_num,hbr,hx,hMq,hfin⟩
        case measure=>simp[intOf];omega
     ·have hfin:Hid (aP (dW ps N)=2):=Lib.hid (by rw[hres2.out,if_pos hcnt])
      have hcc:((p.l.length:Int) != dh p.n)=true:=by rw[bne_iff_ne];exact hcnt
      clear hres2 hcnt
      go_upto_region 9 with (fail)
      refine aC 7 [_,_,_,_,_,.v (.int .i64 (dh p.n)),_] (Gf wr.heap.size 1 rfl rfl (Gl hf2 (V:=.slice p.a p.l.length p.c) (by simp[f1,Try.underlying28]) rfl rfl rfl rfl (Gn rfl rfl rfl rfl (Gf wr.heap.size 0 rfl rfl (Gl hf2 (V:=.int .i64 p.n) (by simp[f0]) rfl rfl rfl rfl (all_cons ?_ (Gb (.bool true) (by simp[go_sem,hcc]) rfl rfl rfl rfl rfl (all_nil))))) (Try.underlying28)))) (fun _=>rfl) rfl ?_
      ·intro ρ y W hw hn hb hd;have E44:=hw 44 4 rfl;have h4:y 4=_:=hd 4 rfl
       have EF:∀f,ρ (.func f) = .func (.func f) #[] #[]:=fun f=>hn (.func f) trivial
       refine aG _ _ (ag rfl) (aK rfl (EF _) Try.func29 (by kernel_rfl) (by kernel_rfl) (by simp only[List.map_toArray,List.map_cons,List.map_nil,E44,h4,EF];rfl)) ?_
       refine (qA p.n W (by omega)).mono ?_
       rintro e w1 ⟨rfl,rfl⟩
       exact⟨_,rfl,Below.refl _ _,rfl⟩
      intro y WA hbWA _
      go_wp2
      go_ret
      exact⟨aO hfin.out.symm,ae hbel2 hbWA⟩
   ·have hfin:Hid (aP (dW ps N)=0):=Lib.hid (by rw[hres.out,List.drop_eq_nil_of_le (by omega)];rfl)
    go_wp2
    go_ret
    exact⟨aO hfin.out.symm,hbr⟩
theorem go_on:∀ {r:List Ar} {q:Ar},aL q=0→srtF q.en r→∀n,onA (mD q r) n=onA (q::r) n
 | [],q,_,_,n=>rfl
 | a::r,q,hq,h,n=>by
  unfold mD
  split
  ·rename_i hj
   rw[go_on (um hq h.1 hj) (by simpa using h.2.2) n,Hy hq h.1 hj]
  ·rw[bJ,go_on h.1 h.2.2 n,←bJ]
theorem go_ok:∀ {r:List Ar} {q:Ar} {p:Option Ar},aL q=0→srtF q.en r→nL p q=false→okF p (mD q r)
 | [],q,p,hq,_,hb=>⟨hq,hb,trivial⟩
 | a::r,q,p,hq,h,hb=>by
  unfold mD
  split
  ·rename_i hj
   refine go_ok (um hq h.1 hj) (by simpa using h.2.2) ?_
   cases p with
   | none=>rfl
   | some z=>exact hb
  ·rename_i hj
   exact⟨hq,hb,go_ok h.1 h.2.2 (sJ.2 ⟨h.2.1,by simpa using hj⟩)⟩
theorem zy {l:List Ar} {lo:Int} (h:srtF lo l) (n:Int):onA (mh l) n=onA l n:=by
 match l,h with
 | [],_=>rfl
 | a::r,h=>rw[qQ,go_on h.1 h.2.2]
theorem zk {l:List Ar} {lo:Int} (h:srtF lo l):okF none (mh l):=by
 match l,h with
 | [],_=>trivial
 | a::r,h=>rw[qQ];exact go_ok h.1 h.2.2 rfl
def nO (o:Option Pg):Array Value:=#[.bool o.isSome,.bool (oR o),.bool (oW o),.bool (oH o),.int .i64 (oF o),.int .i64 (oP o)]
def kP (o:Option Pg):List Value:=(nO o).toList
theorem jq (o:Option Pg):(kP o).length=6:=rfl
theorem Gi (o:Option Pg):∀u∈kP o,u.oneCell' = true:=by
 intro u hu
 simp only[kP,nO,List.mem_cons,List.not_mem_nil,or_false] at hu
 rcases hu with rfl|rfl|rfl|rfl|rfl|rfl<;>rfl
theorem AU (o:Option Pg):(nO o).all (·.oneCell')=true:=by simp[nO,Value.oneCell']
def Eh (l:List (Option Pg)):Array Value:=(l.flatMap kP).toArray
theorem LV (l:List (Option Pg)):(l.flatMap kP).length=l.length*6:=Pw.flat_len kP 6 jq l
theorem rR (l:List (Option Pg)):(Eh l).size=l.length*6:=by
 unfold Eh;rw[List.size_toArray,LV]
theorem rJ (l:List (Option Pg)):(Eh l).all (·.oneCell')=true:=by
 rw[←Array.all_toList,List.all_eq_true]
 intro u hu
 obtain⟨o,_,h⟩:=List.mem_flatMap.1 (show u∈l.flatMap kP by simpa[Eh] using hu)
 exact Gi o u h
theorem KL (l:List (Option Pg)) (k:Nat) (hk:k<l.length) (x:Option Pg):putAt (Eh l) (k*6) (kP x)=Eh (l.set k x):=by
 apply Array.ext_getElem?
 intro i
 by_cases hi:i<l.length*6
 ·have hq:i / 6<l.length:=by omega
  have hir:i=i / 6*6+i%6:=by omega
  have h2:=gG kP 6 jq (l.set k x) (i / 6) (by simpa using hq) (i%6) (by omega)
  rw[←hir] at h2
  have h3:=gG kP 6 jq l (i / 6) hq (i%6) (by omega)
  rw[←hir] at h3
  have e2:(Eh (l.set k x))[i]?=((l.set k x).flatMap kP)[i]?:=by simp[Eh]
  have e3:(Eh l)[i]?=(l.flatMap kP)[i]?:=by simp[Eh]
  by_cases e:i / 6=k
  ·have hik:i=k*6+i%6:=by omega
   have hlt:i%6<(kP x).length:=by rw[jq];omega
   have h1:=putAt_in (kP x) (Eh l) (k*6) (i%6) (kP x)[i%6] (by rw[jq,rR];omega) (List.getElem?_eq_getElem hlt)
   rw[←hik] at h1
   rw[h1,e2,h2]
   simp only[e,List.getElem_set_self]
   exact (List.getElem?_eq_getElem hlt).symm
  ·rw[putAt_out _ _ _ _ (by rw[jq];omega),e2,h2,e3,h3]
   congr 2
   rw[List.getElem_set_ne (fun h=>e h.symm)]
 ·rw[Array.getElem?_eq_none (by rw[size_putAt,rR];omega),Array.getElem?_eq_none (by rw[rR,List.length_set];omega)]
def fC (f:Nat→Option Pg):Array Value:=Eh (Du f)
theorem fG (f:Nat→Option Pg):(fC f).size=384:=by unfold fC;rw[rR,oZ]
theorem Jl (f:Nat→Option Pg) (k:Nat) (hk:k<64) (x:Option Pg):putAt (fC f) (k*6) (kP x)=fC (fun i=>if i=k then x else f i):=by
 unfold fC
 rw[KL _ _ (by rw[oZ];exact hk),JY]
theorem Gz (cur:Array Value) (o:Nat) (a b c d e x y:Value):putAt (putAt cur o [a,b,c,d,e,x]) (o+5) [y]=putAt cur o [a,b,c,d,e,y]:=by
 simp[putAt]
theorem one_size:(Try.prog.info? 106).map (·.size)=some 6:=by kernel_rfl
theorem ones_size:(Try.prog.info? 107).map (·.size)=some 384:=by kernel_rfl
theorem kv (l:List Ar) (a:Option Addr) (c:Nat) (w:World) (h:bZ w a (l.flatMap gW)) (hl:l.length≤1000) (hok:∀x∈l,aL x=0) :
  Calls Try.prog 44 #[.slice a l.length c] w fun r w'=>r = .returned (.agg (fC (bu l)))∧Below w.heap.size w w':=by
 go_enter Try.func44,Try.ntmps44
 go_upto_region 2 with (fail)
 refine nQ (fun W=>Code.wp _ _ _ _ W) fun W0 hb0 hres0 ho0 hs0 => ?_
 clear hs0
 replace ho0:aB W0 (w.heap.size+1) (fC f0) 107:=ho0
 replace hres0:aB W0 w.heap.size (fC f0) 107:=hres0
 go_upto_region 3 with (fail)
 go_loopw [9] (fun i wr => ∃k:Nat,k≤l.length∧i = .int .i64 k∧Below w.heap.size w wr∧aB wr (w.heap.size+1) (fC (bu (l.take k))) 107∧aB wr w.heap.size (fC f0) 107) (fun i _=>l.length-(intOf i).toNat)
 case atStart=>exact⟨0,Nat.zero_le _,rfl,hb0,ho0,hres0⟩
 case round=>
  clear hb0 ho0 hres0
  obtain⟨k,hk,rfl,hbr,hor,hrr⟩:=hrel
  by_cases hlt:k<l.length
  ·have hnx:=Lib.hid (Cn hlt)
   have hA:=aU (hok l[k] (List.getElem_mem _))
   obtain⟨⟨f1,f2,f3⟩,f4,f5,f6,_,_⟩:=hA
   generalize hF:bu (l.take k)=F at *
   obtain⟨b,off,rfl,c0,c1,c2,c3,c4,c5,c6⟩:=Dh (h.below hbr) k hlt
   generalize l[k]=A at *
   go_upto_region 5 with (fail)
   refine eP (fun W=>Code.wp _ _ _ _ W) fun W1 hb1 hx1 hs1 => ?_
   clear hs1 c0 c1 c2 c3 c4 c5 c6
   have hbel1:=ae hbr hb1
   have ho1:=hor.ext hb1
   have hr1:=hrr.ext hb1
   have hgx:w.heap.size+1<wr.heap.size:=hor.lt
   clear hbr hor hrr hb1
   obtain⟨gx,hg⟩:∃g,g=wr.heap.size:=⟨_,rfl⟩
   rw[←hg] at hx1 hgx ⊢
   clear hg
   obtain⟨N,hN⟩:∃N:Nat,A.fr=(N:Int):=⟨A.fr.toNat,by omega⟩
   have hN':=Lib.hid hN
   clear hN
   have hcx:=hx1.cell
   go_upto_region 6 with (fail)
   clear hcx
   go_loopw [6] (fun i wr => ∃K:Nat,A.fr≤(K:Int)∧(K:Int)≤A.en∧i = .int .i64 K∧Below w.heap.size w wr∧aB wr gx (jG A) 69∧aB wr (w.heap.size+1) (fC (Ad A K F)) 107∧aB wr w.heap.size (fC f0) 107) (fun i _=>(A.en-intOf i).toNat)
   case atStart=>exact⟨N,by have:=hN'.out;omega,by have:=hN'.out;omega,by rw[hN'.out],hbel1,hx1,by rw[←hN'.out,FK];exact ho1,hr1⟩
   case round=>
    clear hbel1 hx1 ho1 hr1
    obtain⟨K,hK0,hK1,rfl,hbr,hx,ho,hr⟩:=hrel
    have hcx:=hx.cell
    unfold jG at hcx
    by_cases hKe:(K:Int)<A.en
    ·have hK64:K<64:=by omega
     have hK64i:(K:Int)<64:=by omega
     have hfit:Hid (K*6+6≤(fC (Ad A K F)).size):=Lib.hid (by rw[fG];omega)
     have hwa:IntKind.i64.wrap (A.ba+(K:Int))=A.ba+(K:Int):=IntWalk.i64_in _ (by omega)
     have hwb:IntKind.i64.wrap (A.ba+(K:Int)-A.fr)=A.ba+(K:Int)-A.fr:=IntWalk.i64_in _ (by omega)
     have hfin:Hid (∀q:Int,q=(if 0≤A.fi then A.ba+(K:Int)-A.fr else 0)→putAt (fC (Ad A K F)) (K*6) [.bool true,.bool A.rd,.bool A.wr,.bool A.sh,.int .i64 A.fi,.int .i64 q]=fC (Ad A ((K:Int)+1) F)):=Lib.hid (fun q hq=>by
      rw[←Ih hK0,←Jl _ K hK64,hq];rfl)
     go_upto_region 9 with (refine eG rfl _ _ _ rfl (w.heap.size+1) (K*6) #[.bool true,.bool A.rd,.bool A.wr,.bool A.sh,.int .i64 A.fi,.int .i64 0] rfl rfl _ _ ho hfit.out one_size (by simp[Value.oneCell']) ?_)
     intro W2 ho2 hgr2
     have hbel2:Below w.heap.size w W2:=hbr.grown hgr2 hbr.size (fun k hk=>by cases hk;omega)
     have hx2:aB W2 gx (jG A) 69:=hx.grown hgr2 (fun e=>by have:=Option.some.inj e;omega)
     have hr2:aB W2 w.heap.size (fC f0) 107:=hr.grown hgr2 (fun e=>by have:=Option.some.inj e;omega)
     clear hbr hx ho hr hgr2 hcx
     have hcx:=hx2.cell
     unfold jG at hcx
     by_cases hfi:0≤A.fi
     ·go_upto_region 7 with (refine ay rfl _ _ _ rfl (w.heap.size+1) (K*6+5) (.int .i64 (A.ba+(K:Int)-A.fr)) [.int .i64 (A.ba+(K:Int)-A.fr)] rfl rfl rfl _ _ ho2 (by rw[size_putAt];exact hfit.out) int_size (by simp[Value.oneCell']) ?_)
      intro W3 ho3 hgr3
      have hbel3:Below w.heap.size w W3:=hbel2.grown hgr3 hbel2.size (fun k hk=>by cases hk;omega)
      have hx3:aB W3 gx (jG A) 69:=hx2.grown hgr3 (fun e=>by have:=Option.some.inj e;omega)
      have hr3:aB W3 w.heap.size (fC f0) 107:=hr2.grown hgr3 (fun e=>by have:=Option.some.inj e;omega)
      have ho4:aB W3 (w.heap.size+1) (fC (Ad A ((K:Int)+1) F)) 107:=by
       rw[←hfin.out _ (by rw[if_pos hfi]),←Gz];exact ho3
      clear hbel2 hx2 ho2 hr2 ho3 hgr3 hcx hfin
      go_wp2
      go_roundw
      case rel=>exact⟨K+1,by omega,by omega,by go_num,hbel3,hx3,ho4,hr3⟩
      case measure=>simp[intOf];omega
     ·have ho4:aB W2 (w.heap.size+1) (fC (Ad A ((K:Int)+1) F)) 107:=by
       rw[←hfin.out 0 (by rw[if_neg hfi])];exact ho2
      clear ho2 hfin
      go_wp2
      go_roundw
      case rel=>exact⟨K+1,by omega,by omega,by go_num,hbel2,hx2,ho4,hr2⟩
      case measure=>simp[intOf];omega
    ·have hKA:(K:Int)=A.en:=by omega
     have ho4:aB wr (w.heap.size+1) (fC (bu (l.take (k+1)))) 107:=by
      rw[hnx.out,←hKA];exact ho
     clear ho hKA
     go_wp2
     go_roundw
     case rel=>exact⟨k+1,by omega,by go_num,hbr,ho4,hr⟩
     case measure=>simp[intOf];omega
  ·have hkl:k=l.length:=by omega
   subst hkl
   rw[List.take_length] at hor
   have hs384:Hid ((fC (bu l)).size=384):=Lib.hid (fG _)
   have hr384:Hid ((fC f0).size=384):=Lib.hid (fG _)
   have hone:(fC (bu l)).all (·.oneCell')=true:=rJ _
   go_wp2_with (first | (refine dJ rfl 107 (.tmp 3) rfl (w.heap.size+1) 0 rfl (fC (bu l)).toList hor.rd _ Try.underlying107 rfl (by rw[Array.length_toList,hs384.out];exact ones_size) ?_) | (refine ax rfl _ (.tmp 2) (.tmp 46) rfl w.heap.size (fC (bu l)) rfl rfl _ _ hrr (by rw[hs384.out,hr384.out]) (by rw[hs384.out];exact ones_size) hone ?_))
   intro w5 hr5 hgr5
   have hbel5:Below w.heap.size w w5:=hbr.grown hgr5 hbr.size (fun k hk=>by cases hk;omega)
   go_wp2
   refine bodyPost_ret (v:=.agg (fC (bu l))) (bY Try.results44 _ _ w.heap.size _ _ _ rfl hr5 Try.underlying107 rfl (by rw[hs384.out];exact ones_size)) rfl ?_
   exact⟨rfl,hbel5⟩
theorem yj (a:Ar) (w:World):Calls Try.prog 105 #[.agg (jG a)] w fun r w'=>r = .returned (.int .i64 (aL a))∧Below w.heap.size w w':=by
 unfold jG
 go_enter Try.func105,Try.ntmps105
 go_upto_region 1 with (fail)
 refine eP (fun W=>Code.wp _ _ _ _ W) fun W0 hb0 hx0 hs0 => ?_
 clear hs0
 have hcx:=hx0.cell
 by_cases g1:a.fr<0
 ·have hz:Hid (aL a=3):=Lib.hid (by unfold aL;rw[if_pos (by omega)])
  go_wp2
  go_ret
  exact⟨aO hz.out.symm,hb0⟩
 ·by_cases g2:64<a.en
  ·have hz:Hid (aL a=3):=Lib.hid (by unfold aL;rw[if_pos (by omega)])
   go_wp2
   go_ret
   exact⟨aO hz.out.symm,hb0⟩
  ·by_cases g3:a.en≤a.fr
   ·have hz:Hid (aL a=3):=Lib.hid (by unfold aL;rw[if_pos (by omega)])
    go_wp2
    go_ret
    exact⟨aO hz.out.symm,hb0⟩
   ·by_cases g4:a.fi < -1
    ·have hz:Hid (aL a=3):=Lib.hid (by unfold aL;rw[if_pos (by omega)])
     go_wp2
     go_ret
     exact⟨aO hz.out.symm,hb0⟩
    ·by_cases g5:4<a.fi
     ·have hz:Hid (aL a=3):=Lib.hid (by unfold aL;rw[if_pos (by omega)])
      go_wp2
      go_ret
      exact⟨aO hz.out.symm,hb0⟩
     ·by_cases g6:a.ba<0
      ·have hz:Hid (aL a=3):=Lib.hid (by unfold aL;rw[if_pos (by omega)])
       go_wp2
       go_ret
       exact⟨aO hz.out.symm,hb0⟩
      ·have hn1:¬(a.fr<0∨a.en≤a.fr∨64<a.en∨a.fi < -1∨5≤a.fi∨a.ba<0):=by omega
       have hw1:IntKind.i64.wrap (a.en-a.fr)=a.en-a.fr:=IntWalk.i64_in _ (by omega)
       have hw2:IntKind.i64.wrap (12-(a.en-a.fr))=12-(a.en-a.fr):=IntWalk.i64_in _ (by omega)
       by_cases f1:a.fi = -1
       ·have f1' : (a.fi == -1)=true:=by simpa using f1
        by_cases f2:a.ba=0
        ·have f2' : ¬0<a.ba:=by omega
         cases f3:a.sh
         ·have hz:Hid (aL a=0):=Lib.hid (by unfold aL;rw[if_neg hn1,if_neg (by rw[f3];simp;omega)])
          have f4:¬0≤a.fi:=by omega
          clear hn1 f1 f2
          rw[f3] at hcx
          go_wp2
          go_ret
          exact⟨aO hz.out.symm,hb0⟩
         ·have hz:Hid (aL a=7):=Lib.hid (by unfold aL;rw[if_neg hn1,if_pos (.inl ⟨by omega,.inr f3⟩)])
          clear hn1 f1 f2
          rw[f3] at hcx
          go_wp2
          go_ret
          exact⟨aO hz.out.symm,hb0⟩
        ·have hz:Hid (aL a=7):=Lib.hid (by unfold aL;rw[if_neg hn1,if_pos (.inl ⟨by omega,.inl f2⟩)])
         have f2' : 0<a.ba:=by omega
         clear hn1 f1 f2
         go_wp2
         go_ret
         exact⟨aO hz.out.symm,hb0⟩
       ·have f1' : 0≤a.fi:=by omega
        have f1'' : (a.fi == -1)=false:=by simpa using f1
        by_cases f2:12-(a.en-a.fr)<a.ba
        ·have hz:Hid (aL a=7):=Lib.hid (by unfold aL;rw[if_neg hn1,if_pos (.inr ⟨f1',f2⟩)])
         clear hn1 f1
         go_wp2
         go_ret
         exact⟨aO hz.out.symm,hb0⟩
        ·have hz:Hid (aL a=0):=Lib.hid (by unfold aL;rw[if_neg hn1,if_neg (by omega)])
         clear hn1 f1
         go_wp2
         go_ret
         exact⟨aO hz.out.symm,hb0⟩
theorem Na (p q:Pg) (b:Bool) (h:(p==q)=b) (W:World):(Op.equalIn 10000 106 (.agg #[.bool true,.bool p.rd,.bool p.wr,.bool p.sh,.int .i64 p.fi,.int .i64 p.pg]) (.agg #[.bool true,.bool q.rd,.bool q.wr,.bool q.sh,.int .i64 q.fi,.int .i64 q.pg])).run Try.prog W = .ok b W:=by
 rw[←h,LQ]
 by_cases h3:p.rd=q.rd
 ·by_cases h4:p.wr=q.wr
  ·by_cases h5:p.sh=q.sh
   ·by_cases h6:(p.fi==q.fi)=true
    ·by_cases h7:p.pg=q.pg<;>simp[go_sem,h3,h4,h5,h6,h7]
    ·simp[go_sem,h3,h4,h5,h6]
   ·simp[go_sem,h3,h4,h5]
  ·simp[go_sem,h3,h4]
 ·simp[go_sem,h3]
theorem Lx (q:Pg) (x:Int) (W:World):(Op.equalIn 10000 106 (.agg #[.bool false,.bool false,.bool false,.bool false,.int .i64 0,.int .i64 x]) (.agg #[.bool true,.bool q.rd,.bool q.wr,.bool q.sh,.int .i64 q.fi,.int .i64 q.pg])).run Try.prog W = .ok false W:=by
 simp[go_sem]
theorem Ee (f:Nat→Option Pg) (k:Nat) (hk:k<64):(fC f).extract (k*6) (k*6+6)=nO (f k):=by
 apply Array.ext_getElem?
 intro i
 by_cases hi:i<6
 ·rw[Array.getElem?_extract,if_pos (by rw[fG];omega)]
  have:=gG kP 6 jq (Du f) k (by rw[oZ];exact hk) i hi
  have e:(fC f)[k*6+i]?=((Du f).flatMap kP)[k*6+i]?:=by simp[fC,Eh]
  have e2:(Du f)[k]'(by rw[oZ];exact hk)=f k:=by simp[Du]
  rw[e,this,e2]
  simp[kP]
 ·rw[Array.getElem?_eq_none (by simp;omega),Array.getElem?_eq_none (by simp[nO];omega)]
theorem rP (f:Nat→Option Pg) (k j:Nat) (hk:k<64) (u:Value) (h:(kP (f k))[j]?=some u) (hj:j<6):(fC f)[k*6+j]?=some u:=by
 have:=gG kP 6 jq (Du f) k (by rw[oZ];exact hk) j hj
 have e:(fC f)[k*6+j]?=((Du f).flatMap kP)[k*6+j]?:=by simp[fC,Eh]
 have e2:(Du f)[k]'(by rw[oZ];exact hk)=f k:=by simp[Du]
 rw[e,this,e2]
 exact h
theorem ru (f:Nat→Option Pg) (k:Nat) (hk:k<64) (o:Option Pg) (ho:f k=o) (w:World):(Instr.index 107 (.agg (fC f)) (.int .i64 k)).run Try.prog w = .ok (.agg (nO o)) w:=
 nY Try.underlying107 Try.underlying106 rfl one_size _ k _ hk (by rw[←ho];exact Ee f k hk) _ w
theorem nD {P:Program} {ops:Array Oper} {rest:List Oper} {o:Oper} {a:Act} {w:World} {Q:Exit→Act→World→Prop} (hg:o.guard=none) (t t' : TypeId) (x y:Operand) (ho:o.op = .binOp .eql t x y t') (vx vy:Value) (hx:a.eval x=vx) (hy:a.eval y=vy) (B:Bool)
  (hr:(do eqGuard .eql t x y vx vy;binOp .eql t vx vy:Sem Value).run P w = .ok (.bool B) w) (h:wpList P ops Q rest (a.put o.dst (.bool B)) w):wpList P ops Q (o::rest) a w:=
 wpList_plain hg fun K hK=>by
  unfold Oper.wp
  rw[jX ho hx hy hr]
  exact hK _ _ h
theorem Jp (p q:Pg) (b:Bool) (h:(p==q)=b) (x y:Operand) (W:World):(do eqGuard .eql 106 x y (.agg #[.bool true,.bool p.rd,.bool p.wr,.bool p.sh,.int .i64 p.fi,.int .i64 p.pg]) (.agg #[.bool true,.bool q.rd,.bool q.wr,.bool q.sh,.int .i64 q.fi,.int .i64 q.pg]);binOp .eql 106 (.agg #[.bool true,.bool p.rd,.bool p.wr,.bool p.sh,.int .i64 p.fi,.int .i64 p.pg]) (.agg #[.bool true,.bool q.rd,.bool q.wr,.bool q.sh,.int .i64 q.fi,.int .i64 q.pg]):Sem Value).run Try.prog W = .ok (.bool b) W:=by
 have hE:=Na p q b h
 simp[go_sem,hE]
theorem Dz (q:Pg) (z:Int) (x y:Operand) (W:World):(do eqGuard .eql 106 x y (.agg #[.bool false,.bool false,.bool false,.bool false,.int .i64 0,.int .i64 z]) (.agg #[.bool true,.bool q.rd,.bool q.wr,.bool q.sh,.int .i64 q.fi,.int .i64 q.pg]);binOp .eql 106 (.agg #[.bool false,.bool false,.bool false,.bool false,.int .i64 0,.int .i64 z]) (.agg #[.bool true,.bool q.rd,.bool q.wr,.bool q.sh,.int .i64 q.fi,.int .i64 q.pg]):Sem Value).run Try.prog W = .ok (.bool false) W:=by
 have hE:=Lx q z
 simp[go_sem,hE]
theorem tJ (f:Nat→Option Pg) (w:World) (hf:∀i p,f i=some p→0≤p.pg∧p.pg≤100) :
  Calls Try.prog 118 #[.agg (fC f)] w fun r w' => ∃v,r = .returned v∧Own w' w.heap.size 69 7 v (toA f 64).length ((toA f 64).flatMap gW)∧Below w.heap.size w w':=by
 have hs384:=Lib.hid (fG f)
 go_enter Try.func118,Try.ntmps118
 go_upto_region 1 with (fail)
 refine eP (fun W=>Code.wp _ _ _ _ W) fun W0 hb0 hx0 hs0 => ?_
 clear hs0
 go_upto_region 3 with (refine ak _ _ rfl _ 0 rfl rfl _ hx0.rd _ Try.underlying107 rfl (by rw[Array.length_toList,hs384.out];exact ones_size) ?_)
 go_loopw [9,3] (fun i u wr => ∃k:Nat,k≤64∧i = .int .i64 k∧Below w.heap.size w wr∧aB wr w.heap.size (fC f) 107∧Own wr w.heap.size 69 7 u (toA f k).length ((toA f k).flatMap gW)) (fun i _ _=>64-(intOf i).toNat)
 case atStart=>exact⟨0,Nat.zero_le _,rfl,hb0,hx0,by simpa[toA] using Own.nil _ _ _ _⟩
 case round=>
  clear hb0 hx0
  obtain⟨k,hk,rfl,hbel,hbx,hown⟩:=hrel
  by_cases hlt:k<64
  ·have hlti:(k:Int)<64:=by omega
   have htl:=zD f k
   cases hfk:f k with
   | none=>
    have hix:=ru f k hlt none hfk
    unfold nO oR oW oH oF oP at hix
    have hst:=Lib.hid (Iu hfk)
    go_upto_region 5 with (fail)
    refine eP (fun W=>Code.wp _ _ _ _ W) fun W1 hb1 hx1 hs1 => ?_
    have hcx:=hx1.cell
    have hbel1:=ae hbel hb1
    have hbx1:=hbx.ext hb1
    have hown1:=hown.below hb1
    clear hs1 hb1 hbel hbx hown
    rw[←hst.out] at hown1
    go_wp2
    go_roundw
    case rel=>exact⟨k+1,by omega,by go_num,hbel1,hbx1,hown1⟩
    case measure=>simp[intOf];omega
   | some p=>
    have hix:=ru f k hlt (some p) hfk
    unfold nO oR oW oH oF oP at hix
    go_upto_region 5 with (fail)
    refine eP (fun W=>Code.wp _ _ _ _ W) fun W1 hb1 hx1 hs1 => ?_
    have hbel:=ae hbel hb1
    have hbx:=hbx.ext hb1
    have hown:=hown.below hb1
    clear hs1 hb1
    obtain⟨gx,hgx⟩:∃g,g=wr.heap.size:=⟨_,rfl⟩
    rw[←hgx] at hx1 ⊢
    clear hgx
    generalize hacc:toA f k=acc at *
    obtain⟨au,cu,rfl,_⟩:=hown.rd
    have hcx:=hx1.cell
    have hwk:IntKind.i64.wrap ((k:Int)+1)=(k:Int)+1:=IntWalk.i64_in _ (by omega)
    by_cases hk0:k=0
    ·have hs0:iC f k p=false:=by rw[hk0];rfl
     have hst:Hid (toA f (k+1)=acc++[dB k p]):=Lib.hid (by rw[uS hfk hs0,hacc])
     have hk0i:¬(0:Int)<(k:Int):=by omega
     have hk0n:¬0<k:=by omega
     clear hk0 hs0 hfk hacc
     go_upto_region 14 with (fail)
     go_wp2_with (at_builtin;refine dQ rfl _ _ 60 rfl w.heap.size 69 _ 7 40 Try.underlying60 area_info rfl (by decide) _ acc.length (acc.flatMap gW) rfl (hown.alloc _) (some ⟨W1.heap.size,0,none⟩) 1 1 (gW (dB k p)) rfl (fun h=>(by cases h)) (Nat.le_refl _) rfl (bZ.new _ (jG (dB k p)) _) (fun u hu=>lh [dB k p] u (by simpa using hu)) (by unfold maxLen;omega) (by omega) (cO hbel.size _) ?_)
     intro v W6 hown6 hgr6
     have hbel6:Below w.heap.size w W6:=(hbel.alloc hbel.size _).grown hgr6 (cO hbel.size _) (hown.alloc (.cells (jG (dB k p)) 69)).ge
     have hbx6:aB W6 w.heap.size (fC f) 107:=jv (hbx.alloc (.cells (jG (dB k p)) 69)) (hown.alloc (.cells (jG (dB k p)) 69)) (by decide) hgr6
     have hown7:Own W6 w.heap.size 69 7 v (toA f (k+1)).length ((toA f (k+1)).flatMap gW):=by
      rw[hst.out,List.flatMap_append,List.length_append];simpa using hown6
     clear hown6 hgr6
     go_wp2
     go_roundw
     case rel=>exact⟨k+1,by omega,by go_num,hbel6,hbx6,hown7⟩
     case measure=>simp[intOf];omega
    ·obtain⟨m,hm⟩:∃m,k=m+1:=⟨k-1,by omega⟩
     have hk0i:(0:Int)<(k:Int):=by omega
     have hk0n:0<k:=by omega
     have hwm:IntKind.i64.wrap ((k:Int)-1)=(m:Int):=by rw[IntWalk.i64_in _ (by omega)];omega
     have hm64:m<64:=by omega
     have hm64i:(m:Int)<64:=by omega
     have hm1:∀z,iC f k z=(match f m with | some q=>kQ z q==z | none=>false):=fun z=>by subst hm;rfl
     have hcell:∀j u,(kP (f m))[j]?=some u→j<6→W1.cell? ⟨w.heap.size,m*6+j,none⟩=some u:=fun j u h hj=>by rw[hbx.cell];exact rP f m j hm64 u h hj
     have hmm:=Lib.hid hm
     clear hm hk0
     cases hfm:f m with
     | none=>
      have hs0:iC f k p=false:=by rw[hm1,hfm]
      have hst:Hid (toA f (k+1)=acc++[dB k p]):=Lib.hid (by rw[uS hfk hs0,hacc])
      rw[hfm] at hcell
      have d0:=hcell 0 _ rfl (by decide)
      have d1:=hcell 1 _ rfl (by decide)
      have d2:=hcell 2 _ rfl (by decide)
      have d3:=hcell 3 _ rfl (by decide)
      have d4:=hcell 4 _ rfl (by decide)
      have d5:=hcell 5 _ rfl (by decide)
      simp only[Nat.add_zero,Option.isSome,oR,oW,oH,oF,oP] at d0 d1 d2 d3 d4 d5
      clear hm1 hcell hs0 hfk hacc
      have hw1p:IntKind.i64.wrap (0+1)=1:=by rw[IntWalk.i64_in _ (by omega)];try rfl
      go_upto_region 9 with (fail)
      refine eP (fun W=>Code.wp _ _ _ _ W) fun W2 hb2 hy2 hs2 => ?_
      have hbel:=ae hbel hb2
      have hbx2:=hbx.ext hb2
      have hown2:=hown.below hb2
      have hx2:=hx1.ext hb2
      have hgxy:gx<W1.heap.size:=hx1.lt
      have hgy:w.heap.size<W1.heap.size:=hbx.lt
      have hgB:=hbel.size
      clear hs2 hb2 hbx hown hx1 hcx d0 d1 d2 d3 d4 d5
      have hcx:=hx2.cell
      by_cases hfi:0≤p.fi
      ·obtain⟨gy,hgyE⟩:∃g,g=W1.heap.size:=⟨_,rfl⟩
       rw[←hgyE] at hy2 hgxy hgy ⊢
       clear hgyE
       have hcy:=hy2.cell
       go_upto_region 11 with (refine ay rfl _ _ _ rfl gy 5 (.int .i64 (1)) [.int .i64 (1)] rfl rfl rfl _ _ hy2 (by simp) int_size (by simp[Value.oneCell']) ?_)
       intro W3 hy3 hgr3
       have hy4:aB W3 gy #[.bool false,.bool (false),.bool (false),.bool (false),.int .i64 (0),.int .i64 (1)] 106:=hy3
       have hbel:=hbel.grown hgr3 hbel.size (fun k hk=>by cases hk;omega)
       have hbx3:aB W3 w.heap.size (fC f) 107:=hbx2.grown hgr3 (fun e=>by have:=Option.some.inj e;omega)
       have hx3:aB W3 gx #[.bool true,.bool p.rd,.bool p.wr,.bool p.sh,.int .i64 p.fi,.int .i64 p.pg] 106:=hx2.grown hgr3 (fun e=>by have:=Option.some.inj e;omega)
       have hown:=aj hown2 hy2 (by decide) hgr3
       have hbx:=hbx3
       clear hy2 hy3 hbx2 hx2 hown2 hgr3 hcx hcy hbx3 hgB
       have hE:=Dz p 1
       go_upto_region 12 with (first | (refine ak _ _ rfl _ 0 rfl rfl _ hy4.rd _ Try.underlying106 rfl one_size ?_) | (refine ak _ _ rfl _ 0 rfl rfl _ hx3.rd _ Try.underlying106 rfl one_size ?_) | (refine nD rfl _ _ _ _ rfl _ _ rfl rfl _ (hE _ _ _) ?_))
       clear hE hy4
       have hcx:=hx3.cell
       go_upto_region 14 with (fail)
       go_wp2_with (at_builtin;refine dQ rfl _ _ 60 rfl w.heap.size 69 _ 7 40 Try.underlying60 area_info rfl (by decide) _ acc.length (acc.flatMap gW) rfl (hown.alloc _) (some ⟨W3.heap.size,0,none⟩) 1 1 (gW (dB k p)) rfl (fun h=>(by cases h)) (Nat.le_refl _) rfl (bZ.new _ (jG (dB k p)) _) (fun u hu=>lh [dB k p] u (by simpa using hu)) (by unfold maxLen;omega) (by omega) (cO hbel.size _) ?_)
       intro v W6 hown6 hgr6
       have hbel6:Below w.heap.size w W6:=(hbel.alloc hbel.size _).grown hgr6 (cO hbel.size _) (hown.alloc (.cells (jG (dB k p)) 69)).ge
       have hbx6:aB W6 w.heap.size (fC f) 107:=jv (hbx.alloc (.cells (jG (dB k p)) 69)) (hown.alloc (.cells (jG (dB k p)) 69)) (by decide) hgr6
       have hown7:Own W6 w.heap.size 69 7 v (toA f (k+1)).length ((toA f (k+1)).flatMap gW):=by
        rw[hst.out,List.flatMap_append,List.length_append];simpa using hown6
       clear hown6 hgr6
       go_wp2
       go_roundw
       case rel=>exact⟨k+1,by omega,by go_num,hbel6,hbx6,hown7⟩
       case measure=>simp[intOf];omega
      ·have hbx:=hbx2
       have hown:=hown2
       clear hbx2 hown2
       have hfi' : ¬0≤p.fi:=hfi
       have hE:=Dz p 0
       go_upto_region 12 with (first | (refine ak _ _ rfl _ 0 rfl rfl _ hy2.rd _ Try.underlying106 rfl one_size ?_) | (refine ak _ _ rfl _ 0 rfl rfl _ hx2.rd _ Try.underlying106 rfl one_size ?_) | (refine nD rfl _ _ _ _ rfl _ _ rfl rfl _ (hE _ _ _) ?_))
       clear hE hy2
       have hcx:=hx2.cell
       go_upto_region 14 with (fail)
       go_wp2_with (at_builtin;refine dQ rfl _ _ 60 rfl w.heap.size 69 _ 7 40 Try.underlying60 area_info rfl (by decide) _ acc.length (acc.flatMap gW) rfl (hown.alloc _) (some ⟨W2.heap.size,0,none⟩) 1 1 (gW (dB k p)) rfl (fun h=>(by cases h)) (Nat.le_refl _) rfl (bZ.new _ (jG (dB k p)) _) (fun u hu=>lh [dB k p] u (by simpa using hu)) (by unfold maxLen;omega) (by omega) (cO hbel.size _) ?_)
       intro v W6 hown6 hgr6
       have hbel6:Below w.heap.size w W6:=(hbel.alloc hbel.size _).grown hgr6 (cO hbel.size _) (hown.alloc (.cells (jG (dB k p)) 69)).ge
       have hbx6:aB W6 w.heap.size (fC f) 107:=jv (hbx.alloc (.cells (jG (dB k p)) 69)) (hown.alloc (.cells (jG (dB k p)) 69)) (by decide) hgr6
       have hown7:Own W6 w.heap.size 69 7 v (toA f (k+1)).length ((toA f (k+1)).flatMap gW):=by
        rw[hst.out,List.flatMap_append,List.length_append];simpa using hown6
       clear hown6 hgr6
       go_wp2
       go_roundw
       case rel=>exact⟨k+1,by omega,by go_num,hbel6,hbx6,hown7⟩
       case measure=>simp[intOf];omega
     | some q=>
      have hqb:=hf m q hfm
      have hstp0:=hm1 p
      rw[hfm] at hstp0 hcell
      simp only[] at hstp0
      have d0:=hcell 0 _ rfl (by decide)
      have d1:=hcell 1 _ rfl (by decide)
      have d2:=hcell 2 _ rfl (by decide)
      have d3:=hcell 3 _ rfl (by decide)
      have d4:=hcell 4 _ rfl (by decide)
      have d5:=hcell 5 _ rfl (by decide)
      simp only[Nat.add_zero,Option.isSome,oR,oW,oH,oF,oP] at d0 d1 d2 d3 d4 d5
      generalize hBe:(kQ p q==p)=B at hstp0
      have hstp:=Lib.hid hstp0
      clear hm1 hcell hstp0
      have hN1:0≤p.fi→((⟨q.rd,q.wr,q.sh,q.fi,q.pg+1⟩:Pg)==p)=B:=fun h=>by rw[←hBe];unfold kQ;rw[if_pos h]
      have hN0:¬0≤p.fi→(q==p)=B:=fun h=>by rw[←hBe];unfold kQ;rw[if_neg h]
      clear hBe
      have hw1p:IntKind.i64.wrap (q.pg+1)=(q.pg+1):=by rw[IntWalk.i64_in _ (by omega)];try rfl
      go_upto_region 9 with (fail)
      refine eP (fun W=>Code.wp _ _ _ _ W) fun W2 hb2 hy2 hs2 => ?_
      have hbel:=ae hbel hb2
      have hbx2:=hbx.ext hb2
      have hown2:=hown.below hb2
      have hx2:=hx1.ext hb2
      have hgxy:gx<W1.heap.size:=hx1.lt
      have hgy:w.heap.size<W1.heap.size:=hbx.lt
      have hgB:=hbel.size
      clear hs2 hb2 hbx hown hx1 hcx d0 d1 d2 d3 d4 d5
      have hcx:=hx2.cell
      by_cases hfi:0≤p.fi
      ·obtain⟨gy,hgyE⟩:∃g,g=W1.heap.size:=⟨_,rfl⟩
       rw[←hgyE] at hy2 hgxy hgy ⊢
       clear hgyE
       have hcy:=hy2.cell
       go_upto_region 11 with (refine ay rfl _ _ _ rfl gy 5 (.int .i64 ((q.pg+1))) [.int .i64 ((q.pg+1))] rfl rfl rfl _ _ hy2 (by simp) int_size (by simp[Value.oneCell']) ?_)
       intro W3 hy3 hgr3
       have hy4:aB W3 gy #[.bool true,.bool (q.rd),.bool (q.wr),.bool (q.sh),.int .i64 (q.fi),.int .i64 ((q.pg+1))] 106:=hy3
       have hbel:=hbel.grown hgr3 hbel.size (fun k hk=>by cases hk;omega)
       have hbx3:aB W3 w.heap.size (fC f) 107:=hbx2.grown hgr3 (fun e=>by have:=Option.some.inj e;omega)
       have hx3:aB W3 gx #[.bool true,.bool p.rd,.bool p.wr,.bool p.sh,.int .i64 p.fi,.int .i64 p.pg] 106:=hx2.grown hgr3 (fun e=>by have:=Option.some.inj e;omega)
       have hown:=aj hown2 hy2 (by decide) hgr3
       have hbx:=hbx3
       clear hy2 hy3 hbx2 hx2 hown2 hgr3 hcx hcy hbx3 hgB
       have hE:=Jp ⟨q.rd,q.wr,q.sh,q.fi,q.pg+1⟩ p B (hN1 hfi)
       go_upto_region 12 with (first | (refine ak _ _ rfl _ 0 rfl rfl _ hy4.rd _ Try.underlying106 rfl one_size ?_) | (refine ak _ _ rfl _ 0 rfl rfl _ hx3.rd _ Try.underlying106 rfl one_size ?_) | (refine nD rfl _ _ _ _ rfl _ _ rfl rfl _ (hE _ _ _) ?_))
       clear hE hy4
       have hcx:=hx3.cell
       by_cases hB:B=true
       ·subst hB
        have hst:=Lib.hid (IX hfk hstp.out)
        rw[hacc] at hst
        have hne:0<acc.length:=by
         have:=GJ f hfm
         rw[←hmm.out,hacc] at this
         exact this
        obtain⟨n,hn0⟩:∃n,acc.length=n+1:=⟨acc.length-1,by omega⟩
        have hna:n<acc.length:=by omega
        have hse:Hid (oz acc ((k:Int)+1)=acc.set n { acc[n] with en:=(k:Int)+1 }):=Lib.hid (Ah hn0 _)
        have hni:(n:Int)<(acc.length:Int):=by omega
        have hwn:IntKind.i64.wrap ((acc.length:Int)-1)=(n:Int):=by rw[IntWalk.i64_in _ (by omega)];omega
        obtain⟨g,off1,cap1,hv1,hBg,hgl,⟨csg,hgb⟩,hcc,hfz,hset⟩:=xx kU (by decide) rfl hown n hna 1 (by decide) (.int .i64 ((k:Int)+1)) { acc[n] with en:=(k:Int)+1 } rfl
        cases hv1
        have hc1:=hcc 1 _ rfl
        have hbxg:w.heap.size≠g:=by
         intro e;subst e
         unfold aB at hbx hgb
         rw[hbx] at hgb
         simp at hgb
        clear hcc hn0 hfk hacc hfm
        go_upto_region 15 with (fail)
        have hbel6:Below w.heap.size w (W3.setCell ⟨g,off1+n*7+1,none⟩ (.int .i64 ((k:Int)+1))):=hbel.setCell hBg _
        have hbx6:aB (W3.setCell ⟨g,off1+n*7+1,none⟩ (.int .i64 ((k:Int)+1))) w.heap.size (fC f) 107:=hbx.setCell_other _ _ (by simpa using hbxg)
        have hown7:Own (W3.setCell ⟨g,off1+n*7+1,none⟩ (.int .i64 ((k:Int)+1))) w.heap.size 69 7 (.slice (some ⟨g,off1,none⟩) acc.length cu) (toA f (k+1)).length ((toA f (k+1)).flatMap gW):=by
         rw[hst.out,hse.out,List.length_set];exact hset
        clear hset hown hbel hbx hfz hc1 hgb hcx
        go_wp2
        go_roundw
        case rel=>exact⟨k+1,by omega,by go_num,hbel6,hbx6,hown7⟩
        case measure=>simp[intOf];omega
       ·have hBf:B=false:=by simpa using hB
        subst hBf
        have hst:Hid (toA f (k+1)=acc++[dB k p]):=Lib.hid (by rw[uS hfk hstp.out,hacc])
        clear hfk hacc hfm hB
        go_upto_region 14 with (fail)
        go_wp2_with (at_builtin;refine dQ rfl _ _ 60 rfl w.heap.size 69 _ 7 40 Try.underlying60 area_info rfl (by decide) _ acc.length (acc.flatMap gW) rfl (hown.alloc _) (some ⟨W3.heap.size,0,none⟩) 1 1 (gW (dB k p)) rfl (fun h=>(by cases h)) (Nat.le_refl _) rfl (bZ.new _ (jG (dB k p)) _) (fun u hu=>lh [dB k p] u (by simpa using hu)) (by unfold maxLen;omega) (by omega) (cO hbel.size _) ?_)
        intro v W6 hown6 hgr6
        have hbel6:Below w.heap.size w W6:=(hbel.alloc hbel.size _).grown hgr6 (cO hbel.size _) (hown.alloc (.cells (jG (dB k p)) 69)).ge
        have hbx6:aB W6 w.heap.size (fC f) 107:=jv (hbx.alloc (.cells (jG (dB k p)) 69)) (hown.alloc (.cells (jG (dB k p)) 69)) (by decide) hgr6
        have hown7:Own W6 w.heap.size 69 7 v (toA f (k+1)).length ((toA f (k+1)).flatMap gW):=by
         rw[hst.out,List.flatMap_append,List.length_append];simpa using hown6
        clear hown6 hgr6
        go_wp2
        go_roundw
        case rel=>exact⟨k+1,by omega,by go_num,hbel6,hbx6,hown7⟩
        case measure=>simp[intOf];omega
      ·have hbx:=hbx2
       have hown:=hown2
       clear hbx2 hown2
       have hfi' : ¬0≤p.fi:=hfi
       have hE:=Jp q p B (hN0 hfi')
       go_upto_region 12 with (first | (refine ak _ _ rfl _ 0 rfl rfl _ hy2.rd _ Try.underlying106 rfl one_size ?_) | (refine ak _ _ rfl _ 0 rfl rfl _ hx2.rd _ Try.underlying106 rfl one_size ?_) | (refine nD rfl _ _ _ _ rfl _ _ rfl rfl _ (hE _ _ _) ?_))
       clear hE hy2
       have hcx:=hx2.cell
       by_cases hB:B=true
       ·subst hB
        have hst:=Lib.hid (IX hfk hstp.out)
        rw[hacc] at hst
        have hne:0<acc.length:=by
         have:=GJ f hfm
         rw[←hmm.out,hacc] at this
         exact this
        obtain⟨n,hn0⟩:∃n,acc.length=n+1:=⟨acc.length-1,by omega⟩
        have hna:n<acc.length:=by omega
        have hse:Hid (oz acc ((k:Int)+1)=acc.set n { acc[n] with en:=(k:Int)+1 }):=Lib.hid (Ah hn0 _)
        have hni:(n:Int)<(acc.length:Int):=by omega
        have hwn:IntKind.i64.wrap ((acc.length:Int)-1)=(n:Int):=by rw[IntWalk.i64_in _ (by omega)];omega
        obtain⟨g,off1,cap1,hv1,hBg,hgl,⟨csg,hgb⟩,hcc,hfz,hset⟩:=xx kU (by decide) rfl hown n hna 1 (by decide) (.int .i64 ((k:Int)+1)) { acc[n] with en:=(k:Int)+1 } rfl
        cases hv1
        have hc1:=hcc 1 _ rfl
        have hbxg:w.heap.size≠g:=by
         intro e;subst e
         unfold aB at hbx hgb
         rw[hbx] at hgb
         simp at hgb
        clear hcc hn0 hfk hacc hfm
        go_upto_region 15 with (fail)
        have hbel6:Below w.heap.size w (W2.setCell ⟨g,off1+n*7+1,none⟩ (.int .i64 ((k:Int)+1))):=hbel.setCell hBg _
        have hbx6:aB (W2.setCell ⟨g,off1+n*7+1,none⟩ (.int .i64 ((k:Int)+1))) w.heap.size (fC f) 107:=hbx.setCell_other _ _ (by simpa using hbxg)
        have hown7:Own (W2.setCell ⟨g,off1+n*7+1,none⟩ (.int .i64 ((k:Int)+1))) w.heap.size 69 7 (.slice (some ⟨g,off1,none⟩) acc.length cu) (toA f (k+1)).length ((toA f (k+1)).flatMap gW):=by
         rw[hst.out,hse.out,List.length_set];exact hset
        clear hset hown hbel hbx hfz hc1 hgb hcx
        go_wp2
        go_roundw
        case rel=>exact⟨k+1,by omega,by go_num,hbel6,hbx6,hown7⟩
        case measure=>simp[intOf];omega
       ·have hBf:B=false:=by simpa using hB
        subst hBf
        have hst:Hid (toA f (k+1)=acc++[dB k p]):=Lib.hid (by rw[uS hfk hstp.out,hacc])
        clear hfk hacc hfm hB
        go_upto_region 14 with (fail)
        go_wp2_with (at_builtin;refine dQ rfl _ _ 60 rfl w.heap.size 69 _ 7 40 Try.underlying60 area_info rfl (by decide) _ acc.length (acc.flatMap gW) rfl (hown.alloc _) (some ⟨W2.heap.size,0,none⟩) 1 1 (gW (dB k p)) rfl (fun h=>(by cases h)) (Nat.le_refl _) rfl (bZ.new _ (jG (dB k p)) _) (fun u hu=>lh [dB k p] u (by simpa using hu)) (by unfold maxLen;omega) (by omega) (cO hbel.size _) ?_)
        intro v W6 hown6 hgr6
        have hbel6:Below w.heap.size w W6:=(hbel.alloc hbel.size _).grown hgr6 (cO hbel.size _) (hown.alloc (.cells (jG (dB k p)) 69)).ge
        have hbx6:aB W6 w.heap.size (fC f) 107:=jv (hbx.alloc (.cells (jG (dB k p)) 69)) (hown.alloc (.cells (jG (dB k p)) 69)) (by decide) hgr6
        have hown7:Own W6 w.heap.size 69 7 v (toA f (k+1)).length ((toA f (k+1)).flatMap gW):=by
         rw[hst.out,List.flatMap_append,List.length_append];simpa using hown6
        clear hown6 hgr6
        go_wp2
        go_roundw
        case rel=>exact⟨k+1,by omega,by go_num,hbel6,hbx6,hown7⟩
        case measure=>simp[intOf];omega
  ·have hk64:k=64:=by omega
   subst hk64
   go_wp2
   go_ret
   exact⟨_,rfl,hown,hbel⟩
theorem IW {a b:Ar} (ha:aL a=0) (hb:aL b=0) (h:a.en≤b.fr):(toA (bu [a,b]) 64).length=if bL a b=true then 1 else 2:=by
 have hs:srtF 0 [a,b]:=⟨ha,(aU ha).1.2.1.1,hb,h,trivial⟩
 have e:toA (bu [a,b]) 64=mh [a,b]:=Dj (zk hs) fun i _=>by rw[kC hs,zy hs]
 rw[e,qQ]
 unfold mD
 split<;>rfl
theorem JS (f:Nat→Option Pg) (m:List Ar) (hm:okF none m) (hf:∀i:Nat,i<64→f i=onA m i) (hf' : ∀i p,f i=some p→0≤p.pg∧p.pg≤100) (w:World) :
  Calls Try.prog 106 #[.agg (fC f)] w fun r w' => ∃v,r = .returned (.tuple #[v,.int .i64 (wH m.length)])∧Own w' w.heap.size 69 7 v (if 16<m.length then [] else m).length ((if 16<m.length then [] else m).flatMap gW)∧Below w.heap.size w w':=by
 have hs384:=Lib.hid (fG f)
 have hl64:=zD f 64
 rw[Dj hm hf] at hl64
 go_enter Try.func106,Try.ntmps106
 go_upto_region 1 with (fail)
 refine eP (fun W=>Code.wp _ _ _ _ W) fun W0 hb0 hx0 hs0 => ?_
 clear hs0
 go_wp2_with (refine ak _ _ rfl _ 0 rfl rfl _ hx0.rd _ Try.underlying107 rfl (by rw[Array.length_toList,hs384.out];exact ones_size) ?_)
 refine (tJ f _ hf').mono ?_
 rintro r w1 ⟨v1,rfl,hO1,hb1⟩
 rw[Dj hm hf] at hO1
 have hbel:=ae hb0 hb1
 replace hO1:=hO1.mono hb0.size
 obtain⟨a1,c1,rfl,_⟩:=hO1.rd
 clear hb0 hx0 hb1
 by_cases h:16<m.length
 ·have hi:(16:Int)<(m.length:Int):=by omega
  have hd:Hid (wH m.length=4):=Lib.hid (by unfold wH;rw[if_pos h])
  go_wp2
  go_ret2
  exact⟨.slice none 0 0,by first | (rw[hd.out];done) | (rw[hd.out];rfl),by first | exact Own.nil _ _ _ _ | (rw[if_pos h];exact Own.nil _ _ _ _),hbel⟩
 ·have hi:¬(16:Int)<(m.length:Int):=by omega
  have hd:Hid (wH m.length=0):=Lib.hid (by unfold wH;rw[if_neg h])
  go_wp2
  go_ret2
  exact⟨.slice a1 m.length c1,by first | (rw[hd.out];done) | (rw[hd.out];rfl),by first | exact hO1 | (rw[if_neg h];exact hO1),hbel⟩
theorem qo {P:Program} {ρ:Operand→Value} {o:Oper} {w:World} {t:TypeId} {x l h:Operand} {b off n c O sz:Nat} (ho:o.op = .slice t x (some l) (some h) none) (hx:ρ x = .slice (some ⟨b,off,none⟩) n c) (hl:ρ l = .int .i64 O) (hh:ρ h = .int .i64 ((O:Int)+2))
  (ht:P.underlying t=some (.slice (P.elem t))) (hs:(P.info? (P.elem t)).map (·.size)=some sz) (hO:O+1<n) (hn:n≤c) :
  (execOp ρ o).run P w = .ok (.value (.slice (some ⟨b,off+O*sz,none⟩) 2 (c-O))) w:=by
 have hsz:(Go.sizeOf (P.elem t)).run P w = .ok sz w:=by
  cases hq:P.info? (P.elem t) with
  | none=>simp[hq] at hs
  | some i=>
   have hz:i.size=sz:=by simpa[hq] using hs
   simp[Go.sizeOf,typeInfo,run_program,hq,hz]
 unfold execOp
 simp only[ho,hx,hl,hh,Option.map]
 rw[Sem.run_bind,run_sliceAt_slice w t _ _ _ _ ht,run_slice_lh w t _ n c ht .i64 .i64 O (O+2) (by omega) (by omega) (by omega),hsz]
 have e1:((O:Int)+2).toNat-(O:Int).toNat=2:=by omega
 have e2:((O:Int)+2).toNat-O=2:=by omega
 simp[sliced,e1,e2,Addr.add,show ¬c=O by omega,go_sem]
theorem LW {w:World} {b off:Nat} {l:List Ar} (h:bZ w (some ⟨b,off,none⟩) (l.flatMap gW)) {m:Nat} (hm:m+1<l.length):bZ w (some ⟨b,off+m*7,none⟩) ([l[m],l[m+1]].flatMap gW):=by
 have h1:=xe h m (by omega)
 have h2:=xe h (m+1) hm
 intro j u hj
 refine⟨b,off+m*7,rfl,?_⟩
 simp only[List.flatMap_cons,List.flatMap_nil,List.append_nil] at hj
 by_cases c:j<7
 ·rw[List.getElem?_append_left (by rw[kU];exact c)] at hj
  exact h1 j u hj
 ·rw[List.getElem?_append_right (by rw[kU];omega),kU] at hj
  have:=h2 _ u hj
  rwa [show off+(m+1)*7+(j-7)=off+m*7+j by omega] at this
theorem vS (l:List Ar) (a:Option Addr) (c:Nat) (w:World) (h:Mi w a c l) :
  Calls Try.prog 89 #[.slice a l.length c] w fun e w'=>e = .returned (.agg (Ap (aT l)))∧Below w.heap.size w w':=by
 have hlc:=h.le
 have hlm:=Nat.le_trans h.le h.mx
 unfold maxLen at hlm
 have hrd:=h.rd
 go_enter Try.func89,Try.ntmps89
 go_upto_region 1 with (fail)
 refine eP (fun W=>Code.wp _ _ _ _ W) fun W0 hbel hres hs0 => ?_
 clear hs0
 by_cases h16:16<l.length
 ·have h16' : (16:Int)<(l.length:Int):=by omega
  have hz:Hid (aT l=(4,0)):=Lib.hid (by unfold aT;rw[if_pos h16])
  go_wp2_with (refine ax rfl _ _ _ rfl w.heap.size #[.int .i64 (4),.int .i64 (0)] rfl rfl _ _ hres rfl fau_size (iQ _ _) ?_)
  intro w5 hr5 hgr5
  have hbel5:Below w.heap.size w w5:=hbel.grown hgr5 hbel.size (fun k hk=>by cases hk;exact Nat.le_refl _)
  go_wp2
  refine bodyPost_ret (v:=.agg #[.int .i64 (4),.int .i64 (0)]) (bY Try.results89 _ _ w.heap.size _ _ _ rfl hr5 Try.underlying155 rfl fau_size) rfl ?_
  exact⟨by rw[hz.out];rfl,hbel5⟩
 ·have h16' : ¬(16:Int)<(l.length:Int):=by omega
  have h0:Hid (aT l=fu (kE l 0) 0 (l.drop 0)):=Lib.hid (by unfold aT;rw[if_neg h16];rfl)
  go_upto_region 4 with (fail)
  go_loopw [12] (fun i wr => ∃k:Nat,k≤l.length∧i = .int .i64 k∧Below w.heap.size w wr∧aB wr w.heap.size #[.int .i64 0,.int .i64 0] 155∧(∀i (h:i<l.length),i<k→aL l[i]=0)∧Hid (aT l=fu (kE l k) k (l.drop k))) (fun i _=>l.length-(intOf i).toNat)
  case atStart=>exact⟨0,Nat.zero_le _,rfl,hbel,hres,fun i _ h=>absurd h (Nat.not_lt_zero _),h0⟩
  case round=>
   clear hbel hres h0
   obtain⟨k,hk,rfl,hbel,hres,hp0,hst⟩:=hrel
   have hp:=Lib.hid hp0
   clear hp0
   by_cases hlt:k<l.length
   ·obtain⟨b,off,rfl,c0,c1,c2,c3,c4,c5,c6⟩:=Dh (hrd.below hbel) k hlt
    have hki:(k:Int)<(l.length:Int):=by omega
    go_upto_region 6 with (fail)
    refine eP (fun W=>Code.wp _ _ _ _ W) fun W1 hb1 hx1 hs1 => ?_
    have hbel:=ae hbel hb1
    have hres:=hres.ext hb1
    clear hs1 hb1 c0 c1 c2 c3 c4 c5 c6
    obtain⟨gx,hgx⟩:∃g,g=wr.heap.size:=⟨_,rfl⟩
    rw[←hgx] at hx1 ⊢
    clear hgx
    go_wp2_with (refine ak _ _ rfl _ 0 rfl rfl _ hx1.rd _ Try.underlying69 rfl area_size ?_)
    refine (yj l[k] _).mono ?_
    rintro r w2 ⟨rfl,hb2⟩
    have hbel2:=ae hbel hb2
    have hres2:=hres.ext hb2
    have hx2:=hx1.ext hb2
    clear hbel hres hb2 hx1
    by_cases he:aL l[k]=0
    ·have he':=Lib.hid he
     rw[he]
     clear he
     go_upto_region 9 with (fail)
     by_cases hk0:k=0
     ·subst hk0
      have hd0:decide ((0:Int)<((0:Nat):Int))=false:=rfl
      have hnx:Hid (aT l=fu (kE l (0+1)) (0+1) (l.drop (0+1))):=Lib.hid (by rw[hst.out];exact nI hlt he'.out rfl)
      go_quiet (fail)
      go_wp2
      go_roundw
      case rel=>exact⟨0+1,by omega,by go_num,below_drewN hbel2 _,hres2.drewN _,jF hp.out hlt he'.out,hnx⟩
      case measure=>simp[intOf];omega
     ·obtain⟨m,rfl⟩:∃m,k=m+1:=⟨k-1,by omega⟩
      have hm1:IntKind.i64.wrap (((m+1:Nat):Int)-1)=(m:Int):=by rw[IntWalk.i64_in _ (by omega)];omega
      have hml:m<l.length:=by omega
      have hm2:IntKind.i64.wrap (m:Int)=(m:Int):=IntWalk.i64_in _ (by omega)
      have hm3:IntKind.i64.wrap ((m:Int)+1+1)=(m:Int)+2:=by rw[IntWalk.i64_in _ (by omega)];omega
      have hm4:IntKind.i64.wrap (((m+1:Nat):Int)+1)=(m:Int)+2:=by rw[IntWalk.i64_in _ (by omega)];omega
      have hbp:=Lib.hid (AO hlt)
      have hE0:=hp.out m hml (by omega)
      have hRd:=hrd.below hbel2
      have hPm:=xe hRd m hml
      have hT:=LW hrd hlt
      have hpr:∀x∈[l[m],l[m+1]],aL x=0:=fun x hx=>by
       rcases List.mem_cons.1 hx with rfl|hx
       ·exact hE0
       ·rw[List.mem_singleton.1 hx];exact he'.out
      have hup:Hid (∀i (h:i<l.length),i<m+1+1→aL l[i]=0):=Lib.hid (jF hp.out hlt he'.out)
      generalize hA1:l[m+1]=A1 at *
      generalize hA0:l[m]=A0 at *
      by_cases hov:A1.fr<A0.en
      ·have hz:Hid (aT l=(2,((m+1:Nat):Int))):=Lib.hid (by rw[hst.out];exact nu hlt (by rw[hA1];exact he'.out) (by rw[hA1,hbp.out,decide_eq_true hov];rfl))
       have hpo:True:=trivial
       have hpl:True:=trivial
       refine aC 25 [_,_,_,_,_,_,.v (.pointer (some ⟨b,off+m*7,none⟩)),_,.v (.int .i64 A0.en),_,.v (.int .i64 A1.fr),_,_,_,_,_,_,_,_,_,_,_,_,_,.v (.bool true)] (Gk rfl (Gb (.bool true) (by simp[go_sem]) rfl rfl rfl rfl rfl (Gk rfl (Gk rfl (Gk rfl (Gb (.int .i64 (m:Int)) (by simp[go_sem,hm1,hm2]) rfl rfl rfl rfl rfl (all_cons ?_ (Gf b (off+m*7+1) rfl rfl (all_cons ?_ (Gf gx 0 rfl rfl (all_cons ?_ (Gb (.bool true) (by simp[go_sem,hov]) rfl rfl rfl rfl rfl (Gk rfl (Gk rfl (Gk rfl (Gk rfl (Gk rfl (Gk rfl (Gk rfl (Gk rfl (Gk rfl (Gk rfl (Gk rfl (Gk rfl (Gk rfl (all_nil)))))))))))))))))))))))))) (fun _=>rfl) rfl ?_
       ·intro ρ y W hw hn hb hd;have E27:=hw 27 3 rfl;have h3:y 3=_:=hd 3 rfl;have E29:=hw 29 5 rfl;have h5:y 5=_:=hd 5 rfl
        refine ah (.pointer (some ⟨b,off+m*7,none⟩)) (aJ 2 26 true true rfl rfl ((hw 26 2 rfl).trans (hd 2 rfl))) (by simp[execOp,go_sem,E27,h3,E29,h5,hml]) rfl
       ·intro ρ y W hw hn hb hd;have E31:=hw 31 7 rfl;have h7:y 7=_:=hd 7 rfl
        have hc0:=(hPm.below hb).cells.2.1
        refine ah (.int .i64 A0.en) (aJ 2 26 true true rfl rfl ((hw 26 2 rfl).trans (hd 2 rfl))) (by simp[execOp,go_sem,E31,h7,hc0]) rfl
       ·intro ρ y W hw hn hb hd;have E33:=hw 33 9 rfl;have h9:y 9=_:=hd 9 rfl
        have hc0:=(hx2.ext hb).cell 0
        simp at hc0
        refine ah (.int .i64 A1.fr) (aJ 2 26 true true rfl rfl ((hw 26 2 rfl).trans (hd 2 rfl))) (by simp[execOp,go_sem,E33,h9,hc0]) rfl
       intro y WA hbWA _
       have hbel:=ae hbel2 hbWA
       have hres:=hres2.ext hbWA
       clear hbel2 hres2
       go_wp2_with (refine ax rfl _ _ _ rfl w.heap.size #[.int .i64 (2),.int .i64 (((m+1:Nat):Int))] rfl rfl _ _ hres rfl fau_size (iQ _ _) ?_)
       intro w5 hr5 hgr5
       have hbel5:Below w.heap.size w w5:=hbel.grown hgr5 hbel.size (fun k hk=>by cases hk;exact Nat.le_refl _)
       go_wp2
       refine bodyPost_ret (v:=.agg #[.int .i64 (2),.int .i64 (((m+1:Nat):Int))]) (bY Try.results89 _ _ w.heap.size _ _ _ rfl hr5 Try.underlying155 rfl fau_size) rfl ?_
       exact⟨by rw[hz.out];rfl,hbel5⟩
      ·have hs:srtF 0 [A0,A1]:=⟨hE0,(aU hE0).1.2.1.1,he'.out,by omega,trivial⟩
       have hpo:=Al hs
       have hpl0:=IW hE0 he'.out (by omega:A0.en≤A1.fr)
       cases hj:bL A0 A1
       ·have hpl:(toA (bu [A0,A1]) 64).length=2:=by rw[hpl0,hj];rfl
        have hnx:Hid (aT l=fu (kE l (m+1+1)) (m+1+1) (l.drop (m+1+1))):=Lib.hid (by rw[hst.out];exact nI hlt (by rw[hA1];exact he'.out) (by rw[hA1,hbp.out,decide_eq_false hov,hj];rfl))
        clear hpl0 hs
        refine aC 25 [_,_,_,_,_,_,.v (.pointer (some ⟨b,off+m*7,none⟩)),_,.v (.int .i64 A0.en),_,.v (.int .i64 A1.fr),_,_,_,_,_,_,_,_,.v (.agg (fC (bu [A0,A1]))),.r 20 ((ic w.heap.size 69 7 (toA (bu [A0,A1]) 64).length ((toA (bu [A0,A1]) 64).flatMap gW))),.v (.int .i64 (2)),_,_,.v (.bool false)] (Gk rfl (Gb (.bool true) (by simp[go_sem]) rfl rfl rfl rfl rfl (Gk rfl (Gk rfl (Gk rfl (Gb (.int .i64 (m:Int)) (by simp[go_sem,hm1,hm2]) rfl rfl rfl rfl rfl (all_cons ?_ (Gf b (off+m*7+1) rfl rfl (all_cons ?_ (Gf gx 0 rfl rfl (all_cons ?_ (Gb (.bool false) (by simp[go_sem,hov]) rfl rfl rfl rfl rfl (Gk rfl (Gk rfl (Gk rfl (Gb (.int .i64 (m:Int)) (by simp[go_sem,hm1,hm2]) rfl rfl rfl rfl rfl (Gk rfl (Gb (.int .i64 ((m:Int)+2)) (by simp[go_sem,hm3,hm4]) rfl rfl rfl rfl rfl (Gr (.slice (some ⟨b,off+m*7,none⟩) 2 (c-m)) (fun ρ y W hb hKn=>(qo rfl (az rfl hKn) (az rfl hKn) (az rfl hKn) Try.underlying60 area_size hlt hlc)) rfl rfl (all_cons ?_ (all_cons ?_ (all_cons ?_ (Gb (.bool false) (by simp[go_sem]) rfl rfl rfl rfl rfl (Gk rfl (Gk rfl (all_nil)))))))))))))))))))))))))) (fun _=>rfl) rfl ?_
        ·intro ρ y W hw hn hb hd;have E27:=hw 27 3 rfl;have h3:y 3=_:=hd 3 rfl;have E29:=hw 29 5 rfl;have h5:y 5=_:=hd 5 rfl
         refine ah (.pointer (some ⟨b,off+m*7,none⟩)) (aJ 2 26 true true rfl rfl ((hw 26 2 rfl).trans (hd 2 rfl))) (by simp[execOp,go_sem,E27,h3,E29,h5,hml]) rfl
        ·intro ρ y W hw hn hb hd;have E31:=hw 31 7 rfl;have h7:y 7=_:=hd 7 rfl
         have hc0:=(hPm.below hb).cells.2.1
         refine ah (.int .i64 A0.en) (aJ 2 26 true true rfl rfl ((hw 26 2 rfl).trans (hd 2 rfl))) (by simp[execOp,go_sem,E31,h7,hc0]) rfl
        ·intro ρ y W hw hn hb hd;have E33:=hw 33 9 rfl;have h9:y 9=_:=hd 9 rfl
         have hc0:=(hx2.ext hb).cell 0
         simp at hc0
         refine ah (.int .i64 A1.fr) (aJ 2 26 true true rfl rfl ((hw 26 2 rfl).trans (hd 2 rfl))) (by simp[execOp,go_sem,E33,h9,hc0]) rfl
        ·intro ρ y W hw hn hb hd;have E42:=hw 42 18 rfl;have h18:y 18=_:=hd 18 rfl
         have EF:∀f,ρ (.func f) = .func (.func f) #[] #[]:=fun f=>hn (.func f) trivial
         refine aG _ _ (aJ 12 36 false false rfl rfl ((hw 36 12 rfl).trans (hd 12 rfl))) (aK rfl (EF _) Try.func44 (by kernel_rfl) (by kernel_rfl) (by simp only[List.map_toArray,List.map_cons,List.map_nil,E42,h18,EF];rfl)) ?_
         refine (kv [A0,A1] _ (c-m) W (hT.below (ae hbel2 hb)) (by simp) hpr).mono ?_
         rintro r w1 ⟨rfl,hb1⟩
         exact⟨_,rfl,hb1,rfl⟩
        ·intro ρ y W hw hn hb hd;have E43:=hw 43 19 rfl;have h19:y 19=_:=hd 19 rfl
         have EF:∀f,ρ (.func f) = .func (.func f) #[] #[]:=fun f=>hn (.func f) trivial
         refine aG _ _ (aJ 12 36 false false rfl rfl ((hw 36 12 rfl).trans (hd 12 rfl))) (aK rfl (EF _) Try.func118 (by kernel_rfl) (by kernel_rfl) (by simp only[List.map_toArray,List.map_cons,List.map_nil,E43,h19,EF];rfl)) ?_
         refine (tJ (bu [A0,A1]) W hpo).mono ?_
         rintro r w1 ⟨v1,rfl,ho,hb1⟩
         exact⟨v1,rfl,hb1,ho.mono (Nat.le_trans hbel2.size hb.size)⟩
        ·intro ρ y W hw hn hb hd;have E44:=hw 44 20 rfl;have h20:=hd 20 rfl
         obtain⟨a20,c20,h20v,_⟩:=Own.rd h20
         refine ah (.int .i64 (2)) (aJ 12 36 false false rfl rfl ((hw 36 12 rfl).trans (hd 12 rfl))) (by simp[execOp,go_sem,E44,h20v,hpl]) rfl
        intro y WA hbWA hRWA
        have hy20:((ic w.heap.size 69 7 (toA (bu [A0,A1]) 64).length ((toA (bu [A0,A1]) 64).flatMap gW))).r (y 20) WA:=hRWA 20 (by decide)
        clear hRWA
        have hbel:=ae hbel2 hbWA
        have hres:=hres2.ext hbWA
        clear hbel2 hres2 hm1 hm2 hm3 hm4 hpl
        go_wp2
        go_roundw
        case rel=>exact⟨m+1+1,by omega,by go_num,hbel,hres,hup.out,hnx⟩
        case measure=>simp[intOf];omega
       ·have hpl:(toA (bu [A0,A1]) 64).length=1:=by rw[hpl0,hj];rfl
        have hz:Hid (aT l=(2,((m+1:Nat):Int))):=Lib.hid (by rw[hst.out];exact nu hlt (by rw[hA1];exact he'.out) (by rw[hA1,hbp.out,hj,Bool.or_true]))
        clear hpl0 hs
        refine aC 25 [_,_,_,_,_,_,.v (.pointer (some ⟨b,off+m*7,none⟩)),_,.v (.int .i64 A0.en),_,.v (.int .i64 A1.fr),_,_,_,_,_,_,_,_,.v (.agg (fC (bu [A0,A1]))),.r 20 ((ic w.heap.size 69 7 (toA (bu [A0,A1]) 64).length ((toA (bu [A0,A1]) 64).flatMap gW))),.v (.int .i64 (1)),_,_,.v (.bool true)] (Gk rfl (Gb (.bool true) (by simp[go_sem]) rfl rfl rfl rfl rfl (Gk rfl (Gk rfl (Gk rfl (Gb (.int .i64 (m:Int)) (by simp[go_sem,hm1,hm2]) rfl rfl rfl rfl rfl (all_cons ?_ (Gf b (off+m*7+1) rfl rfl (all_cons ?_ (Gf gx 0 rfl rfl (all_cons ?_ (Gb (.bool false) (by simp[go_sem,hov]) rfl rfl rfl rfl rfl (Gk rfl (Gk rfl (Gk rfl (Gb (.int .i64 (m:Int)) (by simp[go_sem,hm1,hm2]) rfl rfl rfl rfl rfl (Gk rfl (Gb (.int .i64 ((m:Int)+2)) (by simp[go_sem,hm3,hm4]) rfl rfl rfl rfl rfl (Gr (.slice (some ⟨b,off+m*7,none⟩) 2 (c-m)) (fun ρ y W hb hKn=>(qo rfl (az rfl hKn) (az rfl hKn) (az rfl hKn) Try.underlying60 area_size hlt hlc)) rfl rfl (all_cons ?_ (all_cons ?_ (all_cons ?_ (Gb (.bool true) (by simp[go_sem]) rfl rfl rfl rfl rfl (Gk rfl (Gk rfl (all_nil)))))))))))))))))))))))))) (fun _=>rfl) rfl ?_
        ·intro ρ y W hw hn hb hd;have E27:=hw 27 3 rfl;have h3:y 3=_:=hd 3 rfl;have E29:=hw 29 5 rfl;have h5:y 5=_:=hd 5 rfl
         refine ah (.pointer (some ⟨b,off+m*7,none⟩)) (aJ 2 26 true true rfl rfl ((hw 26 2 rfl).trans (hd 2 rfl))) (by simp[execOp,go_sem,E27,h3,E29,h5,hml]) rfl
        ·intro ρ y W hw hn hb hd;have E31:=hw 31 7 rfl;have h7:y 7=_:=hd 7 rfl
         have hc0:=(hPm.below hb).cells.2.1
         refine ah (.int .i64 A0.en) (aJ 2 26 true true rfl rfl ((hw 26 2 rfl).trans (hd 2 rfl))) (by simp[execOp,go_sem,E31,h7,hc0]) rfl
        ·intro ρ y W hw hn hb hd;have E33:=hw 33 9 rfl;have h9:y 9=_:=hd 9 rfl
         have hc0:=(hx2.ext hb).cell 0
         simp at hc0
         refine ah (.int .i64 A1.fr) (aJ 2 26 true true rfl rfl ((hw 26 2 rfl).trans (hd 2 rfl))) (by simp[execOp,go_sem,E33,h9,hc0]) rfl
        ·intro ρ y W hw hn hb hd;have E42:=hw 42 18 rfl;have h18:y 18=_:=hd 18 rfl
         have EF:∀f,ρ (.func f) = .func (.func f) #[] #[]:=fun f=>hn (.func f) trivial
         refine aG _ _ (aJ 12 36 false false rfl rfl ((hw 36 12 rfl).trans (hd 12 rfl))) (aK rfl (EF _) Try.func44 (by kernel_rfl) (by kernel_rfl) (by simp only[List.map_toArray,List.map_cons,List.map_nil,E42,h18,EF];rfl)) ?_
         refine (kv [A0,A1] _ (c-m) W (hT.below (ae hbel2 hb)) (by simp) hpr).mono ?_
         rintro r w1 ⟨rfl,hb1⟩
         exact⟨_,rfl,hb1,rfl⟩
        ·intro ρ y W hw hn hb hd;have E43:=hw 43 19 rfl;have h19:y 19=_:=hd 19 rfl
         have EF:∀f,ρ (.func f) = .func (.func f) #[] #[]:=fun f=>hn (.func f) trivial
         refine aG _ _ (aJ 12 36 false false rfl rfl ((hw 36 12 rfl).trans (hd 12 rfl))) (aK rfl (EF _) Try.func118 (by kernel_rfl) (by kernel_rfl) (by simp only[List.map_toArray,List.map_cons,List.map_nil,E43,h19,EF];rfl)) ?_
         refine (tJ (bu [A0,A1]) W hpo).mono ?_
         rintro r w1 ⟨v1,rfl,ho,hb1⟩
         exact⟨v1,rfl,hb1,ho.mono (Nat.le_trans hbel2.size hb.size)⟩
        ·intro ρ y W hw hn hb hd;have E44:=hw 44 20 rfl;have h20:=hd 20 rfl
         obtain⟨a20,c20,h20v,_⟩:=Own.rd h20
         refine ah (.int .i64 (1)) (aJ 12 36 false false rfl rfl ((hw 36 12 rfl).trans (hd 12 rfl))) (by simp[execOp,go_sem,E44,h20v,hpl]) rfl
        intro y WA hbWA hRWA
        have hy20:((ic w.heap.size 69 7 (toA (bu [A0,A1]) 64).length ((toA (bu [A0,A1]) 64).flatMap gW))).r (y 20) WA:=hRWA 20 (by decide)
        clear hRWA
        have hbel:=ae hbel2 hbWA
        have hres:=hres2.ext hbWA
        clear hbel2 hres2
        go_wp2_with (refine ax rfl _ _ _ rfl w.heap.size #[.int .i64 (2),.int .i64 (((m+1:Nat):Int))] rfl rfl _ _ hres rfl fau_size (iQ _ _) ?_)
        intro w5 hr5 hgr5
        have hbel5:Below w.heap.size w w5:=hbel.grown hgr5 hbel.size (fun k hk=>by cases hk;exact Nat.le_refl _)
        go_wp2
        refine bodyPost_ret (v:=.agg #[.int .i64 (2),.int .i64 (((m+1:Nat):Int))]) (bY Try.results89 _ _ w.heap.size _ _ _ rfl hr5 Try.underlying155 rfl fau_size) rfl ?_
        exact⟨by rw[hz.out];rfl,hbel5⟩
    ·have hz:Hid (aT l=(aL l[k],(k:Int))):=Lib.hid (by rw[hst.out];exact xN hlt he)
     have he' : (aL l[k] != 0)=true:=by simpa using he
     have hbel:=hbel2
     have hres:=hres2
     clear he hbel2 hres2
     go_wp2_with (refine ax rfl _ _ _ rfl w.heap.size #[.int .i64 (aL l[k]),.int .i64 (k)] rfl rfl _ _ hres rfl fau_size (iQ _ _) ?_)
     intro w5 hr5 hgr5
     have hbel5:Below w.heap.size w w5:=hbel.grown hgr5 hbel.size (fun k hk=>by cases hk;exact Nat.le_refl _)
     go_wp2
     refine bodyPost_ret (v:=.agg #[.int .i64 (aL l[k]),.int .i64 (k)]) (bY Try.results89 _ _ w.heap.size _ _ _ rfl hr5 Try.underlying155 rfl fau_size) rfl ?_
     exact⟨by rw[hz.out];rfl,hbel5⟩
   ·have hz:Hid (aT l=(0,0)):=Lib.hid (by rw[hst.out,List.drop_eq_nil_of_le (by omega)];rfl)
    go_wp2_with (refine ax rfl _ _ _ rfl w.heap.size #[.int .i64 (0),.int .i64 (0)] rfl rfl _ _ hres rfl fau_size (iQ _ _) ?_)
    intro w5 hr5 hgr5
    have hbel5:Below w.heap.size w w5:=hbel.grown hgr5 hbel.size (fun k hk=>by cases hk;exact Nat.le_refl _)
    go_wp2
    refine bodyPost_ret (v:=.agg #[.int .i64 (0),.int .i64 (0)]) (bY Try.results89 _ _ w.heap.size _ _ _ rfl hr5 Try.underlying155 rfl fau_size) rfl ?_
    exact⟨by rw[hz.out];rfl,hbel5⟩
structure uO (X:Nat→Int→Prop) (m m' : Ma):Prop where
 sk:fV m m'
 files:m'.st.fs.length=m.st.fs.length
 size:∀f,(fileAt m'.st f).n=(fileAt m.st f).n
 lenb:∀f,(fileAt m'.st f).b.length=(fileAt m.st f).b.length
 see:∀p n,¬X p n→fO m' p n=fO m p n
 con:∀f i,Ay m.st f i→aX m' f i=aX m f i
theorem uO.trans {X:Nat→Int→Prop} {a b c:Ma} (h:uO X a b) (k:uO X b c):uO X a c:=
 ⟨h.sk.trans k.sk,k.files.trans h.files,fun f=>(k.size f).trans (h.size f),fun f=>(k.lenb f).trans (h.lenb f),fun p n hx=>(k.see p n hx).trans (h.see p n hx),fun f i hi=>(k.con f i (hi.same h.files h.lenb)).trans (h.con f i hi)⟩
theorem uO.refl (X:Nat→Int→Prop) (m:Ma):uO X m m:=⟨.refl m,rfl,fun _=>rfl,fun _=>rfl,fun _ _ _=>rfl,fun _ _ _=>rfl⟩
theorem uO.mono {X Y:Nat→Int→Prop} {m m' : Ma} (h:uO X m m') (hx:∀p n,X p n→Y p n):uO Y m m':=⟨h.sk,h.files,h.size,h.lenb,fun p n hn=>h.see p n fun h'=>hn (hx p n h'),h.con⟩
theorem Ed {X:Nat→Int→Prop} {m m' : Ma} (sk:fV m m') (hf:rA m.st m'.st) (hc:∀f i,Ay m.st f i→aX m' f i=aX m f i)
  (hs:∀p n g,¬X p n→iK m p n=some g→De m' g (ent m' p n)=De m g (ent m p n)):uO X m m':=by
 refine⟨sk,hf.len,hf.size,hf.lenb,fun p n hx => ?_,hc⟩
 have hp:iK m' p n=iK m p n:=by unfold iK;rw[sk.ar]
 cases hg:iK m p n with
 | none=>rw[pR hg,pR (hp.trans hg)]
 | some g=>rw[oN hg,oN (hp.trans hg)];exact hs p n g hx hg
def NH (p:Nat) (n:Int) (q:Nat) (j:Int):Prop:=q=p∧j=n
structure Less (m m' : Ma) (p:Nat) (n:Int):Prop where
 rt:Rt m'
 co:Co m'
 vis:uO (NH p n) m m'
 st:m'.st=m.st
 dk:m'.dk=m.dk
 sw:m'.sw=m.sw
 ca:m'.ca=m.ca
 len:m'.m.fs.length=m.m.fs.length
 sll:m'.sl.length=m.sl.length
 ents:∀q j,ent m' q j=if q=p∧j=n then zEn else ent m q j
 fr:∀g,(bn m' g).r≠0→(bn m' g).p=(bn m g).p∧(bn m' g).u=(bn m g).u∧(bn m' g).d=(bn m g).d∧(bn m' g).f=(bn m g).f∧(bn m' g).i=(bn m g).i
theorem Kl (x:Fr) (n:Int):(iM x n).r=x.r+n:=by
 unfold iM
 by_cases h:x.r+n=0
 ·rw[if_pos h,h];rfl
 ·rw[if_neg h]
theorem Ch {x:Fr} {n:Int} (h:x.r+n≠0):iM x n = { x with r:=x.r+n }:=by unfold iM;rw[if_neg h]
theorem CQ {m:Ma} (h:Rt m) (hc:Co m) {p:Nat} {n:Int} {f:Nat} (hk:(ent m p n).k=1) (hn:(ent m p n).n=f):Less m (aQ (setFr m f (iM (bn m f) (-1))) p n zEn) p n:=by
 obtain⟨f',e1,hf,hr,hp,hnn,g0,hg0,hfit0⟩:=il h hk
 have:f' = f:=by omega
 subst this
 have hfew:=h.fewR hf
 have hXE:dn (iM (bn m f') (-1))=0:=Be (h.pt.frE hf) hr (by omega) (by omega)
 have hXr:=Kl (bn m f') (-1)
 have hlike:(bn m f').r≠1→iM (bn m f') (-1) = { bn m f' with r:=(bn m f').r + -1 }:=fun h1=>Ch (by omega)
 generalize hX:iM (bn m f') (-1)=X at *
 have hpt1:Pt (setFr m f' X):=h.pt.setFr hXE
 obtain⟨hs0,_,hpt⟩:=fQ (k:=⟨setFr m f' X,0⟩) (p:=p) (n:=n) (x:=zEn) hpt1 hnn (by decide)
 have hp1:p<(setFr m f' X).sp.length:=hp
 have hent:∀q j,ent (aQ (setFr m f' X) p n zEn) q j=if q=p∧j=n then zEn else ent m q j:=fun q j=>jl hp1 hs0 q j
 have hfr:∀y,bn (aQ (setFr m f' X) p n zEn) y=if y=f' then X else bn m y:=fun y=>uX hf y
 have hlen:(aQ (setFr m f' X) p n zEn).m.fs.length=m.m.fs.length:=mK
 have hcnt:∀kd i,kd≠0→bP (aQ (setFr m f' X) p n zEn) kd i+qO (jZ kd i (ent m p n))=bP m kd i:=fun kd i hkd=>by
  have h1:=mO hp1 hs0 kd i
  have h2:qO (jZ kd i zEn)=0:=ou rfl hkd
  have h3:bP (setFr m f' X) kd i=bP m kd i:=rfl
  have h4:ent (setFr m f' X) p n=ent m p n:=rfl
  rw[h4] at h1
  unfold aQ
  omega
 have hsk0:fV m (setFr m f' X):=fV.of rfl
 have hsk:fV m (aQ (setFr m f' X) p n zEn):=hsk0.trans (fV.setTb (m:=setFr m f' X) (p:=p) (t:=setT (bI (setFr m f' X) p).tb n zEn))
 have hone:∀c∈m.ca,c.k.toNat=f'→(bn m f').r≠1:=fun c hcm e hr1=>by
  have h1:=h.cf f' hf
  have h2:=h.ca.one hcm
  have h3:=h.ca.lt c hcm
  have h4:=vk (f:=f') h hk (by omega)
  have:c.k=(f' : Int):=by omega
  rw[this] at h2
  omega
 have hcaF:∀c∈m.ca,(bn (aQ (setFr m f' X) p n zEn) c.k.toNat).p=(bn m c.k.toNat).p∧(bn (aQ (setFr m f' X) p n zEn) c.k.toNat).d=(bn m c.k.toNat).d∧(bn (aQ (setFr m f' X) p n zEn) c.k.toNat).f=(bn m c.k.toNat).f∧(bn (aQ (setFr m f' X) p n zEn) c.k.toNat).i=(bn m c.k.toNat).i∧1≤(bn (aQ (setFr m f' X) p n zEn) c.k.toNat).r:=fun c hcm=>by
  have h1:=h.ca.fr c hcm
  rw[hfr]
  by_cases e:c.k.toNat=f'
  ·rw[if_pos e]
   have h2:=hone c hcm e
   rw[e] at h1 ⊢
   rw[hlike h2]
   exact⟨rfl,rfl,rfl,rfl,by show 1≤(bn m f').r + -1;omega⟩
  ·rw[if_neg e];exact⟨rfl,rfl,rfl,rfl,h1.1⟩
 have hoth:∀q j,¬(q=p∧j=n)→(ent m q j).k=1→(ent m q j).n.toNat=f'→(bn m f').r≠1:=fun q j hne hk1 hk2 hr1=>by
  obtain⟨f2,b1,b2,b3,b4,b5,g2,b6,b7⟩:=il h hk1
  have hf2:f2=f':=by omega
  subst hf2
  have h2:=zR h.pt (kd:=1) (i:=f2) (by decide) ⟨hk,hn⟩ ⟨hk1,b1⟩ hne
  have h3:=h.cf f2 hf
  omega
 have hcaok:sD (aQ (setFr m f' X) p n zEn):=by
  refine⟨h.ca.file,fun c hcm => ?_,fun c hcm => ?_,h.ca.srt⟩
  ·rw[hlen];exact h.ca.lt c hcm
  ·have h1:=h.ca.fr c hcm
   obtain⟨a1,a2,a3,a4,a5⟩:=hcaF c hcm
   exact⟨a5,a3.trans h1.2.1,a4.trans h1.2.2⟩
 have hdisk:∀a b,ji (aQ (setFr m f' X) p n zEn) a b=ji m a b:=fun _ _=>rfl
 have hcon:∀a b,aX (aQ (setFr m f' X) p n zEn) a b=aX m a b:=by
  intro a b
  rcases Cq m a b with ⟨c,hl,hcm,hcf,hci⟩|⟨hl,hno⟩
  ·subst hcf;subst hci
   rw[wB h.ca hcm,wB (m:=aQ (setFr m f' X) p n zEn) hcaok hcm,(hcaF c hcm).1]
  ·rw[uz hno,uz (m:=aQ (setFr m f' X) p n zEn) hno,hdisk]
 refine⟨⟨hpt,h.trim,fun q hq => ?_,hcaok,fun q j hk' => ?_,fun i hi => ?_,fun i hi hi0 => ?_,fun s hs => ?_⟩,⟨fun c hcm => ?_,fun c hcm hd => ?_,fun i hi hd => ?_⟩,?_,rfl,rfl,rfl,rfl,hlen,rfl,hent,fun y hy => ?_⟩
 ·rw[hsk.lv] at hq
  obtain⟨a1,a2⟩:=h.live q hq
  refine⟨by rw[hsk.ar];exact a1,fun j => ?_⟩
  rw[hent]
  split
  ·rfl
  ·exact a2 j
 ·have hpg:iK (aQ (setFr m f' X) p n zEn) q j=iK m q j:=by unfold iK;rw[hsk.ar]
  rw[hpg]
  rw[hent] at hk' ⊢
  by_cases e:q=p∧j=n
  ·rw[if_pos e] at hk'; exact absurd rfl hk'
  ·rw[if_neg e] at hk' ⊢
   obtain⟨y,hy,hyf⟩:=h.en q j hk'
   refine⟨y,hy,hyf.sw,by rw[hlen];exact hyf.lt,fun hk1 => ?_⟩
   rw[hfr]
   by_cases e2:(ent m q j).n.toNat=f'
   ·rw[if_pos e2]
    have h1:=hyf.fr hk1
    rw[e2] at h1
    rw[hlike (hoth q j e hk1 e2)]
    obtain⟨f1,f2,f3,f4,f5⟩:=h1
    refine⟨f1,f2,f3,f4,fun hw1 hx0 => ?_⟩
    have:=f5 hw1 hx0
    show (bn m f').r + -1≤1
    omega
   ·rw[if_neg e2];exact hyf.fr hk1
 ·have a1:qM (aQ (setFr m f' X) p n zEn) i=qM m i:=rfl
  have h1:=hcnt 1 i (by decide)
  rw[lF] at h1
  rw[hfr,a1]
  have h3:=h.cf i (by rw[←hlen];exact hi)
  by_cases e:i=f'
  ·subst e
   rw[if_pos ⟨hk,hn⟩] at h1
   rw[if_pos rfl,hXr];omega
  ·rw[if_neg (fun h'=>e (by omega))] at h1
   rw[if_neg e];omega
 ·rw[hfr] at hi0
  by_cases e:i=f'
  ·subst e
   rw[if_pos rfl] at hi0
   by_cases hr1:(bn m i).r=1
   ·have hx0:X.r=0:=by omega
    have:=((ig _).1 hXE).2.1 hx0
    omega
   ·rw[hlike hr1] at hi0
    exact h.fc i hf hi0
  ·rw[if_neg e] at hi0
   exact h.fc i (by rw[←hlen];exact hi) hi0
 ·have h1:=hcnt 2 s (by decide)
  rw[lF,if_neg (fun h'=>by omega)] at h1
  have:=h.cs s hs
  show fB m s=_
  omega
 ·obtain⟨a1,a2,a3,a4,a5⟩:=hcaF c hcm
  rw[a1];exact hc.tail c hcm
 ·obtain⟨a1,a2,a3,a4,a5⟩:=hcaF c hcm
  rw[a2] at hd
  rw[a1,hdisk];exact hc.clean c hcm hd
 ·rw[hfr] at hd ⊢
  by_cases e:i=f'
  ·subst e
   rw[if_pos rfl] at hd ⊢
   by_cases hr1:(bn m i).r=1
   ·have hx0:X.r=0:=by omega
    have:=(((ig _).1 hXE).2.1 hx0).2.1
    rw[this] at hd;cases hd
   ·rw[hlike hr1] at hd ⊢
    exact hc.anon i hf hd
  ·rw[if_neg e] at hd ⊢; exact hc.anon i (by rw[←hlen];exact hi) hd
 ·refine Ed hsk (rA.refl _) (fun a b _=>hcon a b) fun q j y hx hy => ?_
  rw[hent,if_neg (show ¬(q=p∧j=n) from hx)]
  refine Bj h.pt.st (h.pt.pg hy).1 (rA.refl _) (fun a b _=>hcon a b) (fun hk1 => ?_) (fun _=>⟨rfl,rfl⟩)
  show (bn (aQ (setFr m f' X) p n zEn) (ent m q j).n.toNat).p=(bn m (ent m q j).n.toNat).p∧(bn (aQ (setFr m f' X) p n zEn) (ent m q j).n.toNat).f=(bn m (ent m q j).n.toNat).f
  rw[hfr]
  by_cases e2:(ent m q j).n.toNat=f'
  ·rw[if_pos e2,e2,hlike (hoth q j hx hk1 e2)]
   exact⟨rfl,rfl⟩
  ·rw[if_neg e2];exact⟨rfl,rfl⟩
 ·rw[hfr] at hy ⊢
  by_cases e:y=f'
  ·rw[if_pos e] at hy ⊢
   rw[e,hlike (by omega)]
   exact⟨rfl,rfl,rfl,rfl,rfl⟩
  ·rw[if_neg e];exact⟨rfl,rfl,rfl,rfl,rfl⟩
theorem EZ {m:Ma} (h:Rt m) (hc:Co m) {p:Nat} {n:Int} {s:Nat} (hk:(ent m p n).k=2) (hn:(ent m p n).n=s):Less m (aQ (setSl m s (fB m s + -1)) p n zEn) p n:=by
 have hin:=jC (m:=m) (p:=p) (n:=n) (by rw[hk];decide)
 obtain⟨g0,hg0,hfit0⟩:=h.en p n (by rw[hk];decide)
 have hs:s<m.sl.length:=by have:=hfit0.sw hk;omega
 have hfew:=h.fewS hs
 have hpos:0<bP m 2 s:=(iL (by decide)).2 ⟨p,n,hin.1,hin.2,hk,hn⟩
 have hcs:=h.cs s hs
 have hpt1:Pt (setSl m s (fB m s + -1)):=h.pt.setSl (by omega) (by omega)
 obtain⟨hs0,_,hpt⟩:=fQ (k:=⟨setSl m s (fB m s + -1),0⟩) (p:=p) (n:=n) (x:=zEn) hpt1 hin.2 (by decide)
 have hp1:p<(setSl m s (fB m s + -1)).sp.length:=hin.1
 have hent:∀q j,ent (aQ (setSl m s (fB m s + -1)) p n zEn) q j=if q=p∧j=n then zEn else ent m q j:=fun q j=>jl hp1 hs0 q j
 have hcnt:∀kd i,kd≠0→bP (aQ (setSl m s (fB m s + -1)) p n zEn) kd i+qO (jZ kd i (ent m p n))=bP m kd i:=fun kd i hkd=>by
  have h1:=mO hp1 hs0 kd i
  have h2:qO (jZ kd i zEn)=0:=ou rfl hkd
  have h3:bP (setSl m s (fB m s + -1)) kd i=bP m kd i:=rfl
  have h4:ent (setSl m s (fB m s + -1)) p n=ent m p n:=rfl
  rw[h4] at h1
  unfold aQ
  omega
 have hsk0:fV m (setSl m s (fB m s + -1)):=fV.of rfl
 have hsk:fV m (aQ (setSl m s (fB m s + -1)) p n zEn):=hsk0.trans (fV.setTb (m:=setSl m s (fB m s + -1)) (p:=p) (t:=setT (bI (setSl m s (fB m s + -1)) p).tb n zEn))
 have hsll:(aQ (setSl m s (fB m s + -1)) p n zEn).sl.length=m.sl.length:=List.length_set
 refine⟨⟨hpt,h.trim,fun q hq => ?_,⟨h.ca.file,h.ca.lt,h.ca.fr,h.ca.srt⟩,fun q j hk' => ?_,fun i hi => ?_,h.fc,fun i hi => ?_⟩,⟨hc.tail,hc.clean,hc.anon⟩,?_,rfl,rfl,rfl,rfl,rfl,hsll,hent,fun y hy=>⟨rfl,rfl,rfl,rfl,rfl⟩⟩
 ·rw[hsk.lv] at hq
  obtain⟨a1,a2⟩:=h.live q hq
  refine⟨by rw[hsk.ar];exact a1,fun j => ?_⟩
  rw[hent]
  split
  ·rfl
  ·exact a2 j
 ·have hpg:iK (aQ (setSl m s (fB m s + -1)) p n zEn) q j=iK m q j:=by unfold iK;rw[hsk.ar]
  rw[hpg]
  rw[hent] at hk' ⊢
  by_cases e:q=p∧j=n
  ·rw[if_pos e] at hk'; exact absurd rfl hk'
  ·rw[if_neg e] at hk' ⊢
   obtain⟨y,hy,hyf⟩:=h.en q j hk'
   exact⟨y,hy,by rw[hsll];exact hyf.sw,hyf.lt,hyf.fr⟩
 ·have h1:=hcnt 1 i (by decide)
  rw[lF,if_neg (fun h'=>by omega)] at h1
  have h2:=h.cf i hi
  have a1:qM (aQ (setSl m s (fB m s + -1)) p n zEn) i=qM m i:=rfl
  have a2:bn (aQ (setSl m s (fB m s + -1)) p n zEn) i=bn m i:=rfl
  rw[a1,a2];omega
 ·rw[hsll] at hi
  have h1:=hcnt 2 i (by decide)
  rw[lF] at h1
  have h2:=h.cs i hi
  have a2:fB (aQ (setSl m s (fB m s + -1)) p n zEn) i=fB (setSl m s (fB m s + -1)) i:=rfl
  rw[a2,yS hs]
  by_cases e:i=s
  ·subst e
   rw[if_pos ⟨hk,hn⟩] at h1
   rw[if_pos rfl];omega
  ·rw[if_neg (fun h'=>e (by omega))] at h1
   rw[if_neg e];omega
 ·refine Ed hsk (rA.refl _) (fun a b _=>rfl) fun q j y hx hy => ?_
  rw[hent,if_neg (show ¬(q=p∧j=n) from hx)]
  exact Bj h.pt.st (h.pt.pg hy).1 (rA.refl _) (fun a b _=>rfl) (fun _=>⟨rfl,rfl⟩) (fun _=>⟨rfl,rfl⟩)
theorem Kb {k:Kp} (h:Rt k.m) (hc:Co k.m) (p:Nat) (n:Int):((ent k.m p n).k=0∧jK k p n=k)∨∃m',jK k p n=⟨m',k.e⟩∧Less k.m m' p n:=by
 have h2:=(bv _).1 (kN h.pt p n)
 have hg:bT (bI k.m p).tb n=ent k.m p n:=rfl
 rcases h2 with h2|h2|h2
 ·refine .inl ⟨h2.1,?_⟩
  unfold jK
  rw[hg,if_neg (by omega),if_neg (by omega)]
 ·right
  obtain⟨f,e1,hf,hr,hp,hnn,g0,hg0,hfit0⟩:=il h h2.1
  have hfew:=h.fewR hf
  obtain⟨a1,a2⟩:=BB (k:=k) (f:=f) (n:=-1) h.pt hf hr (by omega) (by omega)
  obtain⟨s0,b1,b2⟩:=fQ (k:=⟨setFr k.m f (iM (bn k.m f) (-1)),k.e⟩) (p:=p) (n:=n) (x:=zEn) a2 hnn (by decide)
  refine⟨_,?_,CQ h hc h2.1 e1⟩
  unfold jK
  simp only
  rw[hg,if_pos h2.1,e1,a1,b1]
  rfl
 ·right
  have hin:=jC (m:=k.m) (p:=p) (n:=n) (by omega)
  obtain⟨g0,hg0,hfit0⟩:=h.en p n (by omega)
  have hs:(ent k.m p n).n.toNat<k.m.sl.length:=by have:=hfit0.sw h2.1;omega
  have hfew:=h.fewS hs
  have hpos:0<bP k.m 2 ((ent k.m p n).n.toNat:Nat):=(iL (by decide)).2 ⟨p,n,hin.1,hin.2,h2.1,by omega⟩
  have hcs:=h.cs _ hs
  obtain⟨a1,a2⟩:=FD (k:=k) (s:=(ent k.m p n).n.toNat) (n:=-1) h.pt hs (by omega) (by omega) (by omega)
  obtain⟨s0,b1,b2⟩:=fQ (k:=⟨setSl k.m (ent k.m p n).n.toNat (fB k.m (ent k.m p n).n.toNat + -1),k.e⟩) (p:=p) (n:=n) (x:=zEn) a2 hin.2 (by decide)
  refine⟨_,?_,EZ h hc h2.1 (s:=(ent k.m p n).n.toNat) (by omega)⟩
  unfold jK
  simp only
  rw[hg,if_neg (by omega),if_pos h2.1]
  rw[show (ent k.m p n).n=(((ent k.m p n).n.toNat:Nat):Int) by omega,a1,b1]
  rfl
def iJ (m:Ma) (q:Nat) (s:Sp):Ma:={ m with sp:=m.sp.set q s }
theorem ja {m:Ma} {q:Nat} {s:Sp} (hq:q<m.sp.length) (p:Nat):bI (iJ m q s) p=if p=q then s else bI m p:=by
 unfold bI iJ
 simp only
 rw[List.getD_eq_getElem?_getD,List.getElem?_set]
 by_cases e:p=q
 ·subst e;rw[if_pos rfl,if_pos hq,if_pos rfl];rfl
 ·rw[if_neg (fun h=>e h.symm),if_neg e,List.getD_eq_getElem?_getD]
theorem yK {t:Tb} {kd i:Int} (hk:kd≠0) (h:∀n,(bT t n).k=0):(bA t).countP (jZ kd i)=0:=by
 rw[List.countP_eq_zero]
 intro e he
 unfold bA at he
 obtain⟨j,_,rfl⟩:=List.mem_map.1 he
 unfold jZ
 simp only[Bool.and_eq_true,decide_eq_true_eq]
 rintro⟨h1,_⟩
 have:=h j
 omega
theorem yl {m:Ma} (h:Rt m) (hc:Co m) {q:Nat} {s:Sp} (hq:q<m.sp.length) (h0:∀n,(ent m q n).k=0) (ha:(aT s.ar).1=0) (hv:s.lv=false→s.ar=[]) (ht:s.tb=zTb):Rt (iJ m q s)∧Co (iJ m q s):=by
 have hent:∀p j,(ent (iJ m q s) p j).k≠0→p≠q:=fun p j hk e=>by
  unfold ent at hk
  rw[ja hq,if_pos e,ht,jr] at hk
  exact hk rfl
 have hent2:∀p j,p≠q→ent (iJ m q s) p j=ent m p j:=fun p j e=>by unfold ent;rw[ja hq,if_neg e]
 have hcnt:∀kd i,kd≠0→bP (iJ m q s) kd i=bP m kd i:=fun kd i hk=>by
  unfold bP iJ
  simp only
  have e1:=sum_set (m.sp.map fun s=>(bA s.tb).countP (jZ kd i)) q (by simpa using hq) ((bA s.tb).countP (jZ kd i))
  have e2:(bA s.tb).countP (jZ kd i)=0:=yK hk fun n=>by rw[ht,jr];rfl
  have e3:(bA (bI m q).tb).countP (jZ kd i)=0:=yK hk fun n=>h0 n
  rw[List.getElem_map] at e1
  have e4:m.sp[q]=bI m q:=by have:=tQ hq;rw[List.getElem?_eq_getElem hq] at this;exact Option.some.inj this
  rw[e4,e3,e2] at e1
  rw[List.map_set,e2]
  omega
 refine⟨⟨{ h.pt with spl:=by show (m.sp.set q s).length≤4;rw[List.length_set];exact h.pt.spl,ar:=fun y hy => ?_,tb:=fun y hy => ?_ },h.trim,fun p hp => ?_,⟨h.ca.file,h.ca.lt,h.ca.fr,h.ca.srt⟩,fun p j hk => ?_,fun i hi=>by rw[hcnt 1 i (by decide)];exact h.cf i hi,h.fc,fun i hi=>by rw[hcnt 2 i (by decide)];exact h.cs i hi⟩,⟨hc.tail,hc.clean,hc.anon⟩⟩
 ·rcases List.mem_or_eq_of_mem_set hy with hy|rfl
  ·exact h.pt.ar y hy
  ·exact ha
 ·rcases List.mem_or_eq_of_mem_set hy with hy|rfl
  ·exact h.pt.tb y hy
  ·rw[ht];decide
 ·by_cases e:p=q
  ·rw[ja hq,if_pos e] at hp ⊢
   refine⟨hv hp,fun n => ?_⟩
   unfold ent
   rw[ja hq,if_pos e,ht,jr];rfl
  ·rw[ja hq,if_neg e] at hp ⊢
   exact⟨(h.live p hp).1,fun n=>by rw[hent2 p n e];exact (h.live p hp).2 n⟩
 ·have e:=hent p j hk
  rw[hent2 p j e] at hk ⊢
  obtain⟨y,hy,hyf⟩:=h.en p j hk
  refine⟨y,?_,hyf.sw,hyf.lt,hyf.fr⟩
  unfold iK at hy ⊢
  rw[ja hq,if_neg e];exact hy
def MZ (l:List Ar) (n:Int):Bool:=(l.getD (eY l n).toNat zAr).sh
def gB (k:Kp) (p q:Nat) (n:Int):Kp:=
 let e:=ent k.m p n
 if e.k=2 then
  if bC k.m.sl e.n 1≠0 then ⟨k.m,bC k.m.sl e.n 1⟩ else fq ⟨{ k.m with sl:=bi k.m.sl e.n 1 },k.e⟩ q n e
 else
  let k1:=eU k e.n 1
  if MZ (bI k.m p).ar n=true then fq k1 q n e else fq (fq k1 p n ⟨e.k,e.n,false⟩) q n ⟨e.k,e.n,false⟩
def dM (m:Ma) (p q:Nat):Ma:=if q=m.sp.length then { m with sp:=m.sp++[⟨true,(bI m p).ar,zTb⟩] } else iJ m q ⟨true,(bI m p).ar,zTb⟩
def iR (k:Kp) (p q:Nat) (l:List Int):Kp:=l.foldl (fun k n=>gB k p q n) k
def Gs (m:Ma) (p q:Nat):Kp:=iR ⟨dM m p q,0⟩ p q (aF (bI m p).tb)
def Bp (m:Ma):Int:=idx (fun s:Sp => !s.lv) m.sp
def GX (a n i:Int):Bool:=decide (a≤i)&&decide (i-a<n)
def fH (k:Kp) (p:Nat) (a n:Int) (l:List Int):Kp:=l.foldl (fun k i=>if GX a n i=true then jK k p i else k) k
def wK (k:Kp) (p:Nat) (a n:Int):Kp:=fH k p a n (aF (bI k.m p).tb)
def DX (m:Ma) (p:Nat):Kp:=let k:=wK ⟨m,0⟩ p 0 64;⟨iJ k.m p zSp,k.e⟩
theorem GN {m:Ma} {p:Nat} {n:Int} {g:Pg} (hg:iK m p n=some g):MZ (bI m p).ar n=g.sh∧0≤eY (bI m p).ar n:=by
 have h1:0≤eY (bI m p).ar n:=(vv _ _).2 (by unfold iK at hg;rw[hg];simp)
 have h2:=(yU h1).1
 unfold iK at hg
 rw[hg] at h2
 have h3:=Option.some.inj h2
 refine⟨?_,h1⟩
 unfold MZ
 rw[h3];rfl
def oG (x y:Fr):Prop:=y.p=x.p∧y.u=x.u∧y.d=x.d∧y.f=x.f∧y.i=x.i∧(y.r=0↔x.r=0)
theorem oG.refl (x:Fr):oG x x:=⟨rfl,rfl,rfl,rfl,rfl,Iff.rfl⟩
theorem oG.trans {x y z:Fr} (h:oG x y) (k:oG y z):oG x z:=⟨k.1.trans h.1,k.2.1.trans h.2.1,k.2.2.1.trans h.2.2.1,k.2.2.2.1.trans h.2.2.2.1,k.2.2.2.2.1.trans h.2.2.2.2.1,k.2.2.2.2.2.trans h.2.2.2.2.2⟩
theorem oG.up {x:Fr} (h:x.r≠0) (h0:0≤x.r):oG x (dD x):=⟨rfl,rfl,rfl,rfl,rfl,⟨fun (e:x.r+1=0)=>by omega,fun e=>absurd e h⟩⟩
def alike (a b:En):Prop:=b.k=a.k∧b.n=a.n
structure Shared (m m' : Ma) (p q:Nat) (D:List Int):Prop where
 rt:Rt m'
 co:Co m'
 sk:fV m m'
 st:m'.st=m.st
 dk:m'.dk=m.dk
 sw:m'.sw=m.sw
 ca:m'.ca=m.ca
 len:m'.m.fs.length=m.m.fs.length
 sll:m'.sl.length=m.sl.length
 fr:∀g,oG (bn m g) (bn m' g)
 sl:∀s,fB m' s=0↔fB m s=0
 oth:∀a j,a≠q→alike (ent m a j) (ent m' a j)
 chd:∀j,j∈D→alike (ent m p j) (ent m' q j)
 chn:∀j,¬j∈D→ent m' q j=ent m q j
theorem Cv {k:Kp} (h:Rt k.m) (hc:Co k.m) {p q:Nat} (hpq:p≠q) (hq:q<k.m.sp.length) (har:(bI k.m q).ar=(bI k.m p).ar) {n:Int} (hk:(ent k.m p n).k≠0) (h0:(ent k.m q n).k=0) :
  ∃m',gB k p q n=⟨m',k.e⟩∧Shared k.m m' p q [n]:=by
 obtain⟨g,hg,hfit⟩:=h.en p n hk
 have hgq:iK k.m q n=some g:=by unfold iK at hg ⊢; rw[har];exact hg
 have hE:=(bv _).1 (kN h.pt p n)
 have hin:=jC hk
 obtain⟨hsh,hfi⟩:=GN hg
 by_cases k2:(ent k.m p n).k=2
 ·have hs:(ent k.m p n).n.toNat<k.m.sl.length:=by have:=hfit.sw k2;omega
  have hfew:=h.fewS hs
  have hpos:0<bP k.m 2 ((ent k.m p n).n.toNat:Nat):=(iL (by decide)).2 ⟨p,n,hin.1,hin.2,k2,by omega⟩
  have hcs:=h.cs _ hs
  have hn:(ent k.m p n).n=(((ent k.m p n).n.toNat:Nat):Int):=by omega
  have h00:bC k.m.sl (((ent k.m p n).n.toNat:Nat):Int) 1=0:=by
   have e1:xA k.m.sl (((ent k.m p n).n.toNat:Nat):Int)=fB k.m (ent k.m p n).n.toNat:=rfl
   unfold bC
   rw[if_neg (by rw[h.pt.sl];simp),if_neg (by rw[e1];omega),if_neg (by rw[e1];omega)]
  obtain⟨a1,a2⟩:=vN h hc k2 hn hq h0 hg hgq
  have hpt1:Pt (setSl k.m (ent k.m p n).n.toNat (fB k.m (ent k.m p n).n.toNat+1)):=h.pt.setSl (by omega) (by omega)
  obtain⟨s0,b1,b2⟩:=fQ (k:=⟨setSl k.m (ent k.m p n).n.toNat (fB k.m (ent k.m p n).n.toNat+1),k.e⟩) (p:=q) (n:=n) (x:=ent k.m p n) hpt1 hin.2 (kN h.pt p n)
  have hent:=fun a j=>jl (m:=setSl k.m (ent k.m p n).n.toNat (fB k.m (ent k.m p n).n.toNat+1)) (p:=q) hq s0 a j
  refine⟨_,?_,a1,a2,?_,rfl,rfl,rfl,rfl,rfl,List.length_set,fun _ => .refl _,fun s => ?_,fun a j ha => ?_,fun j hj => ?_,fun j hj => ?_⟩
  ·unfold gB
   simp only
   rw[if_pos k2,if_neg (by rw[hn];rw[h00];simp)]
   have:bi k.m.sl (ent k.m p n).n 1=(setSl k.m (ent k.m p n).n.toNat (fB k.m (ent k.m p n).n.toNat+1)).sl:=by
    unfold bi
    rw[if_pos (by rw[hn];exact h00)]
    rfl
   rw[this]
   exact b1
  ·have hsk0:fV k.m (setSl k.m (ent k.m p n).n.toNat (fB k.m (ent k.m p n).n.toNat+1)):=fV.of rfl
   exact hsk0.trans fV.setTb
  ·have e1:fB (aQ (setSl k.m (ent k.m p n).n.toNat (fB k.m (ent k.m p n).n.toNat+1)) q n (ent k.m p n)) s=fB (setSl k.m (ent k.m p n).n.toNat (fB k.m (ent k.m p n).n.toNat+1)) s:=rfl
   rw[e1,yS hs]
   by_cases e:s=(ent k.m p n).n.toNat
   ·subst e;rw[if_pos rfl];omega
   ·rw[if_neg e]
  ·have:ent (aQ (setSl k.m (ent k.m p n).n.toNat (fB k.m (ent k.m p n).n.toNat+1)) q n (ent k.m p n)) a j=ent k.m a j:=by
    have:=hent a j
    rw[if_neg (fun h'=>ha h'.1)] at this
    exact this
   rw[this];exact⟨rfl,rfl⟩
  ·have hj':=List.mem_singleton.1 hj
   subst hj'
   have:=hent q j
   rw[if_pos ⟨rfl,rfl⟩] at this
   exact⟨congrArg En.k this,congrArg En.n this⟩
  ·have:=hent q j
   rw[if_neg (fun h'=>hj (List.mem_singleton.2 h'.2))] at this
   exact this
 ·have k1:(ent k.m p n).k=1:=by omega
  obtain⟨f,e1,hf,hr,hp,hnn,g0,hg0,hfit0⟩:=il h k1
  rw[hg] at hg0
  cases hg0
  have hfew:=h.fewR hf
  obtain⟨a1,a2⟩:=BB (k:=k) (f:=f) (n:=1) h.pt hf hr (by omega) (by omega)
  have hup:iM (bn k.m f) 1=dD (bn k.m f):=by unfold iM;rw[if_neg (by omega)];rfl
  rw[hup] at a1 a2
  have hfrs:∀y,oG (bn k.m y) (bn (setFr k.m f (dD (bn k.m f))) y):=fun y=>by
   rw[uX hf]
   by_cases e:y=f
   ·subst e;rw[if_pos rfl];exact .up hr hfew.1
   ·rw[if_neg e];exact .refl _
  have hsk0:fV k.m (setFr k.m f (dD (bn k.m f))):=fV.of rfl
  have hk' : (1:Int)=(ent k.m p n).k:=k1.symm
  by_cases hs:g.sh=true
  ·obtain⟨s0,b1,b2⟩:=fQ (k:=⟨setFr k.m f (dD (bn k.m f)),k.e⟩) (p:=q) (n:=n) (x:=ent k.m p n) a2 hnn (kN h.pt p n)
   have hent:=fun a j=>jl (m:=setFr k.m f (dD (bn k.m f))) (p:=q) hq s0 a j
   obtain⟨c1,c2⟩:=qz h hc k1 e1 hq h0 hg hgq (fun _=>hs) (fun hx=>by
    have:=hfit0.2.1 hs;omega)
   refine⟨_,?_,c1,c2,hsk0.trans fV.setTb,rfl,rfl,rfl,rfl,mK,rfl,hfrs,fun _=>Iff.rfl,fun a j ha => ?_,fun j hj => ?_,fun j hj => ?_⟩
   ·unfold gB
    simp only
    rw[if_neg k2,hsh,if_pos hs]
    rw[show eU k (ent k.m p n).n 1=eU k (f:Int) 1 by rw[e1],a1,b1]
    rfl
   ·have:=hent a j
    rw[if_neg (fun h'=>ha h'.1)] at this
    exact⟨congrArg En.k this,congrArg En.n this⟩
   ·have hj':=List.mem_singleton.1 hj
    subst hj'
    have:=hent q j
    rw[if_pos ⟨rfl,rfl⟩] at this
    exact⟨congrArg En.k this,congrArg En.n this⟩
   ·have:=hent q j
    rw[if_neg (fun h'=>hj (List.mem_singleton.2 h'.2))] at this
    exact this
  ·have hxE:dm ⟨1,f,false⟩=0:=(bv _).2 (.inr (.inl ⟨rfl,by show (0:Int)≤f;omega,by have:=((dR _).1 h.pt.fr).1;show (f:Int)<40;omega⟩))
   obtain⟨s0,b1,b2⟩:=fQ (k:=⟨setFr k.m f (dD (bn k.m f)),k.e⟩) (p:=p) (n:=n) (x:=⟨1,f,false⟩) a2 hnn hxE
   obtain⟨t0,d1,d2⟩:=fQ (k:=⟨setTb (setFr k.m f (dD (bn k.m f))) p (setT (bI (setFr k.m f (dD (bn k.m f))) p).tb n ⟨1,f,false⟩),k.e⟩) (p:=q) (n:=n) (x:=⟨1,f,false⟩) b2 hnn hxE
   have hent1:=fun a j=>jl (m:=setFr k.m f (dD (bn k.m f))) (p:=p) hp s0 a j
   have hent2:=fun a j=>jl (m:=aQ (setFr k.m f (dD (bn k.m f))) p n ⟨1,f,false⟩) (p:=q) (by show q<(setTb _ _ _).sp.length;rw[pF];exact hq) t0 a j
   obtain⟨c1,c2⟩:=xu h hc hpq k1 e1 hq h0 hg hgq
   refine⟨_,?_,c1,c2,(hsk0.trans fV.setTb).trans fV.setTb,rfl,rfl,rfl,rfl,mK,rfl,hfrs,fun _=>Iff.rfl,fun a j ha => ?_,fun j hj => ?_,fun j hj => ?_⟩
   ·unfold gB
    simp only
    rw[if_neg k2,hsh,if_neg hs,k1]
    rw[show eU k (ent k.m p n).n 1=eU k (f:Int) 1 by rw[e1],a1,e1,b1,d1]
    rfl
   ·have h2:=hent2 a j
    rw[if_neg (fun h'=>ha h'.1)] at h2
    have h1:=hent1 a j
    have h3:ent (aQ (aQ (setFr k.m f (dD (bn k.m f))) p n ⟨1,f,false⟩) q n ⟨1,f,false⟩) a j=if a=p∧j=n then ⟨1,f,false⟩ else ent k.m a j:=h2.trans h1
    rw[h3]
    by_cases e:a=p∧j=n
    ·rw[if_pos e,e.1,e.2];exact⟨k1.symm,e1.symm⟩
    ·rw[if_neg e];exact⟨rfl,rfl⟩
   ·have hj':=List.mem_singleton.1 hj
    subst hj'
    have h2:=hent2 q j
    rw[if_pos ⟨rfl,rfl⟩] at h2
    have h3:ent (aQ (aQ (setFr k.m f (dD (bn k.m f))) p j ⟨1,f,false⟩) q j ⟨1,f,false⟩) q j=⟨1,f,false⟩:=h2
    rw[h3]
    exact⟨k1.symm,e1.symm⟩
   ·have h2:=hent2 q j
    rw[if_neg (fun h'=>hj (List.mem_singleton.2 h'.2))] at h2
    have h1:=hent1 q j
    rw[if_neg (fun h'=>hpq h'.1.symm)] at h1
    exact h2.trans h1
theorem Shared.refl {m:Ma} (h:Rt m) (hc:Co m) (p q:Nat):Shared m m p q []:=⟨h,hc,.refl _,rfl,rfl,rfl,rfl,rfl,rfl,fun _ => .refl _,fun _=>Iff.rfl,fun _ _ _=>⟨rfl,rfl⟩,fun j hj=>(by cases hj),fun _ _=>rfl⟩
theorem Shared.trans {a b c:Ma} {p q:Nat} {D E:List Int} (hpq:p≠q) (h:Shared a b p q D) (k:Shared b c p q E) (hde:∀j∈D,¬j∈E):Shared a c p q (D++E):=by
 refine⟨k.rt,k.co,h.sk.trans k.sk,k.st.trans h.st,k.dk.trans h.dk,k.sw.trans h.sw,k.ca.trans h.ca,k.len.trans h.len,k.sll.trans h.sll,fun g=>(h.fr g).trans (k.fr g),fun s=>(k.sl s).trans (h.sl s),fun x j hx => ?_,fun j hj => ?_,fun j hj => ?_⟩
 ·have h1:=h.oth x j hx;have h2:=k.oth x j hx
  exact⟨h2.1.trans h1.1,h2.2.trans h1.2⟩
 ·rcases List.mem_append.1 hj with hj|hj
  ·rw[k.chn j (hde j hj)];exact h.chd j hj
  ·have h1:=k.chd j hj;have h2:=h.oth p j hpq
   exact⟨h1.1.trans h2.1,h1.2.trans h2.2⟩
 ·rw[k.chn j (fun h'=>hj (List.mem_append.2 (.inr h'))),h.chn j (fun h'=>hj (List.mem_append.2 (.inl h')))]
theorem yn {p q:Nat} (hpq:p≠q):∀(l:List Int) (k:Kp),Rt k.m→Co k.m→q<k.m.sp.length→(bI k.m q).ar=(bI k.m p).ar→l.Nodup→(∀n∈l,(ent k.m p n).k≠0∧(ent k.m q n).k=0) →
  ∃m',iR k p q l=⟨m',k.e⟩∧Shared k.m m' p q l
 | [],k,h,hc,_,_,_,_=>⟨k.m,rfl,.refl h hc p q⟩
 | n::l,k,h,hc,hq,har,hnd,hl=>by
  obtain⟨m1,e1,h1⟩:=Cv h hc hpq hq har (hl n List.mem_cons_self).1 (hl n List.mem_cons_self).2
  have hnd':=List.nodup_cons.1 hnd
  obtain⟨m2,e2,h2⟩:=yn hpq l ⟨m1,k.e⟩ h1.rt h1.co (by show q<m1.sp.length;rw[h1.sk.len];exact hq) (by show (bI m1 q).ar=(bI m1 p).ar;rw[h1.sk.ar,h1.sk.ar];exact har) hnd'.2 (fun j hj=>by
   have hne:j≠n:=fun e=>hnd'.1 (e▸hj)
   have a1:=h1.oth p j hpq
   have a2:=h1.chn j (fun h'=>hne (List.mem_singleton.1 h'))
   have a3:=hl j (List.mem_cons_of_mem _ hj)
   exact⟨by show (ent m1 p j).k≠0;rw[a1.1];exact a3.1,by show (ent m1 q j).k=0;rw[a2];exact a3.2⟩)
  refine⟨m2,?_,h1.trans hpq h2 (fun j hj h'=>hnd'.1 (List.mem_singleton.1 hj▸h'))⟩
  unfold iR at e2 ⊢
  rw[List.foldl_cons,e1,e2]
theorem KT {t:Tb} (h:t=zTb) (n:Int):bT t n=zEn:=by rw[h,jr]
structure Forked (m m' : Ma) (p q:Nat):Prop where
 rt:Rt m'
 co:Co m'
 st:m'.st=m.st
 dk:m'.dk=m.dk
 sw:m'.sw=m.sw
 ca:m'.ca=m.ca
 len:m'.m.fs.length=m.m.fs.length
 sll:m'.sl.length=m.sl.length
 fr:∀g,oG (bn m g) (bn m' g)
 sl:∀s,fB m' s=0↔fB m s=0
 spl:m'.sp.length=max m.sp.length (q+1)
 spq:(bI m' q).lv=true∧(bI m' q).ar=(bI m p).ar
 spo:∀a,a≠q→(bI m' a).lv=(bI m a).lv∧(bI m' a).ar=(bI m a).ar
 oth:∀a j,a≠q→alike (ent m a j) (ent m' a j)
 chd:∀j,alike (ent m p j) (ent m' q j)
theorem JW {m:Ma} {s:Sp} (q:Nat):bI { m with sp:=m.sp++[s] } q=if q=m.sp.length then s else bI m q:=by
 unfold bI
 show (m.sp++[s]).getD q zSp=_
 rw[List.getD_eq_getElem?_getD,List.getElem?_append]
 by_cases e:q<m.sp.length
 ·rw[if_pos e,if_neg (by omega),List.getD_eq_getElem?_getD]
 ·rw[if_neg e]
  by_cases e2:q=m.sp.length
  ·rw[if_pos e2,e2,Nat.sub_self];rfl
  ·rw[if_neg e2,List.getD_eq_getElem?_getD,List.getElem?_eq_none (by simp;omega),List.getElem?_eq_none (by omega)]
theorem IM {m:Ma} (h:Rt m) (hc:Co m) {p q:Nat} (hp:p<m.sp.length) (hq:q=m.sp.length∧m.sp.length<4∨q<m.sp.length∧(bI m q).lv=false) :
  Rt (dM m p q)∧Co (dM m p q)∧(dM m p q).sp.length=max m.sp.length (q+1)∧(∀a,bI (dM m p q) a=if a=q then ⟨true,(bI m p).ar,zTb⟩ else bI m a):=by
 unfold dM
 rcases hq with ⟨hq,hl⟩|⟨hq,hv⟩
 ·rw[if_pos hq]
  have:=ww h hc (s:=⟨true,(bI m p).ar,zTb⟩) hl rfl (h.pt.arN p) rfl
  refine⟨this.1,this.2,by simp;omega,fun a => ?_⟩
  rw[JW,hq]
 ·rw[if_neg (by omega)]
  have:=yl h hc (q:=q) (s:=⟨true,(bI m p).ar,zTb⟩) hq (h.live q hv).2 (h.pt.arN p) (fun e=>by cases e) rfl
  refine⟨this.1,this.2,by unfold iJ;rw[List.length_set];omega,fun a=>ja hq a⟩
theorem Kt {m:Ma} (h:Rt m) (hc:Co m) {p q:Nat} (hp:p<m.sp.length) (hv:(bI m p).lv=true) (hq:q=m.sp.length∧m.sp.length<4∨q<m.sp.length∧(bI m q).lv=false) :
  ∃m',Gs m p q=⟨m',0⟩∧Forked m m' p q:=by
 obtain⟨a1,a2,a3,a4⟩:=IM h hc hp hq
 have hpq:p≠q:=by
  rintro rfl
  rcases hq with ⟨e,_⟩|⟨_,e⟩
  ·omega
  ·rw[hv] at e;cases e
 have hm0:(dM m p q).m=m.m∧(dM m p q).st=m.st∧(dM m p q).dk=m.dk∧(dM m p q).sw=m.sw∧(dM m p q).ca=m.ca∧(dM m p q).sl=m.sl:=by
  unfold dM iJ
  split<;>exact⟨rfl,rfl,rfl,rfl,rfl,rfl⟩
 obtain⟨g1,g2,g3,g4,g5,g6⟩:=hm0
 have hentp:∀a j,a≠q→ent (dM m p q) a j=ent m a j:=fun a j ha=>by unfold ent;rw[a4,if_neg ha]
 have hentq:∀j,ent (dM m p q) q j=zEn:=fun j=>by unfold ent;rw[a4,if_pos rfl,jr]
 obtain⟨m',e1,hS⟩:=yn hpq (aF (bI m p).tb) ⟨dM m p q,0⟩ a1 a2 (by show q<(dM m p q).sp.length;omega) (by show (bI (dM m p q) q).ar=(bI (dM m p q) p).ar;rw[a4,a4,if_pos rfl,if_neg hpq]) (zU _) (fun n hn=>by
  have:=gH.1 hn
  refine⟨by show (ent (dM m p q) p n).k≠0;rw[hentp p n hpq];exact this.2,by show (ent (dM m p q) q n).k=0;rw[hentq];rfl⟩)
 have hfr:∀g,bn (dM m p q) g=bn m g:=fun g=>LM g1 g
 have hsl:∀s,fB (dM m p q) s=fB m s:=fun s=>by unfold fB;rw[g6]
 refine⟨m',e1,hS.rt,hS.co,hS.st.trans g2,hS.dk.trans g3,hS.sw.trans g4,hS.ca.trans g5,hS.len.trans (by show (dM m p q).m.fs.length=_;rw[g1]),hS.sll.trans (by show (dM m p q).sl.length=_;rw[g6]),fun g=>by rw[←hfr];exact hS.fr g,fun s=>by rw[←hsl];exact hS.sl s,?_,?_,fun a ha => ?_,fun a j ha => ?_,fun j => ?_⟩
 ·exact hS.sk.len.trans a3
 ·refine⟨(hS.sk.lv q).trans ?_,(hS.sk.ar q).trans ?_⟩
  ·show (bI (dM m p q) q).lv=true;rw[a4,if_pos rfl]
  ·show (bI (dM m p q) q).ar=_;rw[a4,if_pos rfl]
 ·refine⟨(hS.sk.lv a).trans ?_,(hS.sk.ar a).trans ?_⟩
  ·show (bI (dM m p q) a).lv=_;rw[a4,if_neg ha]
  ·show (bI (dM m p q) a).ar=_;rw[a4,if_neg ha]
 ·rw[←hentp a j ha];exact hS.oth a j ha
 ·by_cases hj:j∈aF (bI m p).tb
  ·have:=hS.chd j hj
   rw[show ent (Kp.m ⟨dM m p q,0⟩) p j=ent m p j from hentp p j hpq] at this
   exact this
  ·have h1:ent m' q j=ent (dM m p q) q j:=hS.chn j hj
   rw[h1,hentq]
   have h2:(ent m p j).k=0:=by
    by_cases hb:0≤j∧j<64
    ·by_cases h3:(ent m p j).k=0
     ·exact h3
     ·exact absurd (gH.2 ⟨hb,h3⟩) hj
    ·rw[rW p (by omega)];rfl
   have h3:=(bv _).1 (kN h.pt p j)
   exact⟨h2.symm,by show (0:Int)=_;omega⟩
theorem xY {m m' : Ma} {p q:Nat} {n:Int} (hst:m'.st=m.st) (hdk:m'.dk=m.dk) (hsw:m'.sw=m.sw) (hca:m'.ca=m.ca) (hfr:∀g,(bn m' g).p=(bn m g).p∧(bn m' g).f=(bn m g).f) (har:(bI m' q).ar=(bI m p).ar) (he:alike (ent m p n) (ent m' q n)):fO m' q n=fO m p n:=by
 have hcon:∀a b,aX m' a b=aX m a b:=fun a b=>by
  unfold aX
  rw[hca,hst,hdk]
  cases m.ca.find? fun c=>decide (c.f=a)&&decide (c.i=b) with
  | none=>rfl
  | some c=>exact (hfr c.k.toNat).1
 have hp:iK m' q n=iK m p n:=by unfold iK;rw[har]
 cases hg:iK m p n with
 | none=>rw[pR hg,pR (hp.trans hg)]
 | some g=>
  rw[oN hg,oN (hp.trans hg)]
  unfold De
  rw[he.1,he.2,hsw,hst,hcon]
  have h1:=(hfr (ent m p n).n.toNat).1
  have h2:=(hfr (ent m p n).n.toNat).2
  have h1' : (jI m' (ent m p n).n).p=(jI m (ent m p n).n).p:=h1
  have h2' : (jI m' (ent m p n).n).f=(jI m (ent m p n).n).f:=h2
  rw[h1',h2']
structure DJ (m m' : Ma) (p:Nat) (D:Int→Prop):Prop where
 rt:Rt m'
 co:Co m'
 vis:uO (fun q j=>q=p∧D j) m m'
 st:m'.st=m.st
 dk:m'.dk=m.dk
 sw:m'.sw=m.sw
 ca:m'.ca=m.ca
 len:m'.m.fs.length=m.m.fs.length
 sll:m'.sl.length=m.sl.length
 ents:∀q j,(q=p∧D j→ent m' q j=zEn)∧(¬(q=p∧D j)→ent m' q j=ent m q j)
 fr:∀g,(bn m' g).r≠0→(bn m' g).p=(bn m g).p∧(bn m' g).u=(bn m g).u∧(bn m' g).d=(bn m g).d∧(bn m' g).f=(bn m g).f∧(bn m' g).i=(bn m g).i
theorem Less.zero {m:Ma} (h:Rt m) (hc:Co m) {p:Nat} {n:Int} (h0:(ent m p n).k=0):Less m m p n:=by
 refine⟨h,hc,.refl _ _,rfl,rfl,rfl,rfl,rfl,rfl,fun q j => ?_,fun _ _=>⟨rfl,rfl,rfl,rfl,rfl⟩⟩
 by_cases e:q=p∧j=n
 ·rw[if_pos e,e.1,e.2]
  have hE:=(bv _).1 (kN h.pt p n)
  rcases hE with hE|hE|hE
  ·show ent m p n=⟨0,0,false⟩
   cases hx:ent m p n
   rw[hx] at hE
   simp only at hE
   rw[hE.1,hE.2.1,hE.2.2]
  ·omega
  ·omega
 ·rw[if_neg e]
theorem FW {k:Kp} (h:Rt k.m) (hc:Co k.m) (p:Nat) (n:Int):∃m',jK k p n=⟨m',k.e⟩∧Less k.m m' p n:=by
 rcases Kb h hc p n with ⟨h0,e⟩|h'
 ·exact⟨k.m,e,.zero h hc h0⟩
 ·exact h'
theorem tT (p:Nat) (a n:Int):∀(l:List Int) (k:Kp),Rt k.m→Co k.m→∃m',fH k p a n l=⟨m',k.e⟩∧DJ k.m m' p (fun j=>j∈l∧GX a n j=true)
 | [],k,h,hc=>⟨k.m,rfl,h,hc,.refl _ _,rfl,rfl,rfl,rfl,rfl,rfl,fun q j=>⟨fun h'=>absurd h'.2.1 (by simp),fun _=>rfl⟩,fun _ _=>⟨rfl,rfl,rfl,rfl,rfl⟩⟩
 | i::l,k,h,hc=>by
  by_cases hi:GX a n i=true
  ·obtain⟨m1,e1,h1⟩:=FW h hc p i
   obtain⟨m2,e2,h2⟩:=tT p a n l ⟨m1,k.e⟩ h1.rt h1.co
   refine⟨m2,?_,h2.rt,h2.co,?_,h2.st.trans h1.st,h2.dk.trans h1.dk,h2.sw.trans h1.sw,h2.ca.trans h1.ca,h2.len.trans h1.len,h2.sll.trans h1.sll,fun q j=>⟨fun⟨hq,hj,hjn⟩ => ?_,fun hj => ?_⟩,fun g hr => ?_⟩
   ·unfold fH at e2 ⊢
    rw[List.foldl_cons,if_pos hi,e1,e2]
   ·refine (h1.vis.mono fun q j hx => ?_).trans (h2.vis.mono fun q j hx=>⟨hx.1,List.mem_cons_of_mem _ hx.2.1,hx.2.2⟩)
    exact⟨hx.1,by rw[hx.2];exact List.mem_cons_self,by rw[hx.2];exact hi⟩
   ·by_cases hjl:j∈l
    ·exact (h2.ents q j).1 ⟨hq,hjl,hjn⟩
    ·have hji:j=i:=by rcases List.mem_cons.1 hj with e | e;exact e;exact absurd e hjl
     rw[(h2.ents q j).2 (fun h'=>hjl h'.2.1)]
     show ent m1 q j=_
     rw[h1.ents,if_pos ⟨hq,hji⟩]
   ·rw[(h2.ents q j).2 (fun h'=>hj ⟨h'.1,List.mem_cons_of_mem _ h'.2.1,h'.2.2⟩)]
    show ent m1 q j=_
    rw[h1.ents,if_neg]
    exact fun h'=>hj ⟨h'.1,by rw[h'.2];exact List.mem_cons_self,by rw[h'.2];exact hi⟩
   ·have b1:=h2.fr g hr
    have hr1:(bn m1 g).r≠0:=by
     intro e
     rcases Nat.lt_or_ge g m1.m.fs.length with hg|hg
     ·have c1:=h1.rt.cf g hg
      have c2:=h2.rt.cf g (by rw[h2.len];exact hg)
      have c3:qM m2 g=qM m1 g:=by unfold qM;rw[h2.ca]
      have c4:¬0<bP m2 1 g:=fun hh=>by
       obtain⟨q,j,d1,d2,d3,d4⟩:=(iL (by decide)).1 hh
       have d5:ent m2 q j=ent m1 q j:=by
        by_cases hx:q=p∧j∈l∧GX a n j=true
        ·rw[(h2.ents q j).1 hx] at d3;exact absurd d3 (by decide)
        ·exact (h2.ents q j).2 hx
       rw[d5] at d3 d4
       have:=(iL (m:=m1) (kd:=1) (i:=g) (by decide)).2 ⟨q,j,by have:=jC (m:=m1) (p:=q) (n:=j) (by omega);exact this.1,d2,d3,d4⟩
       omega
      omega
     ·have:(bn m2 g).r=0:=by rw[Kc (by rw[h2.len];exact hg)];rfl
      exact hr this
    have b2:=h1.fr g hr1
    exact⟨b1.1.trans b2.1,b1.2.1.trans b2.2.1,b1.2.2.1.trans b2.2.2.1,b1.2.2.2.1.trans b2.2.2.2.1,b1.2.2.2.2.trans b2.2.2.2.2⟩
  ·obtain⟨m2,e2,h2⟩:=tT p a n l k h hc
   refine⟨m2,?_,h2.rt,h2.co,h2.vis.mono fun q j hx=>⟨hx.1,List.mem_cons_of_mem _ hx.2.1,hx.2.2⟩,h2.st,h2.dk,h2.sw,h2.ca,h2.len,h2.sll,fun q j=>⟨fun⟨hq,hj,hjn⟩ => ?_,fun hj => ?_⟩,h2.fr⟩
   ·unfold fH at e2 ⊢
    rw[List.foldl_cons,if_neg hi,e2]
   ·rcases List.mem_cons.1 hj with e|hj
    ·rw[e] at hjn;exact absurd hjn hi
    ·exact (h2.ents q j).1 ⟨hq,hj,hjn⟩
   ·exact (h2.ents q j).2 fun h'=>hj ⟨h'.1,List.mem_cons_of_mem _ h'.2.1,h'.2.2⟩
theorem Ha {k:Kp} (h:Rt k.m) (hc:Co k.m) (p:Nat) (a n:Int):∃m',wK k p a n=⟨m',k.e⟩∧DJ k.m m' p (fun j=>GX a n j=true):=by
 obtain⟨m',e,hC⟩:=tT p a n (aF (bI k.m p).tb) k h hc
 have hz:∀q j,q=p→GX a n j=true→¬j∈aF (bI k.m p).tb→ent k.m q j=zEn∧ent m' q j=zEn:=fun q j hq hj hjl=>by
  have e1:ent m' q j=ent k.m q j:=(hC.ents q j).2 fun h'=>hjl h'.2.1
  have e2:ent k.m q j=zEn:=by
   subst hq
   have h0:(ent k.m q j).k=0:=by
    by_cases hb:0≤j∧j<64
    ·by_cases h3:(ent k.m q j).k=0
     ·exact h3
     ·exact absurd (gH.2 ⟨hb,h3⟩) hjl
    ·rw[rW q (by omega)];rfl
   have:=(Less.zero h hc h0).ents q j
   rw[if_pos ⟨rfl,rfl⟩] at this
   exact this
  exact⟨e2,e1.trans e2⟩
 refine⟨m',e,hC.rt,hC.co,hC.vis.mono fun q j hx=>⟨hx.1,hx.2.2⟩,hC.st,hC.dk,hC.sw,hC.ca,hC.len,hC.sll,fun q j=>⟨fun⟨hq,hj⟩ => ?_,fun hj=>(hC.ents q j).2 fun h'=>hj ⟨h'.1,h'.2.2⟩⟩,hC.fr⟩
 by_cases hjl:j∈aF (bI k.m p).tb
 ·exact (hC.ents q j).1 ⟨hq,hjl,hj⟩
 ·exact (hz q j hq hj hjl).2
structure Gone (m m' : Ma) (p:Nat):Prop where
 rt:Rt m'
 co:Co m'
 st:m'.st=m.st
 dk:m'.dk=m.dk
 sw:m'.sw=m.sw
 ca:m'.ca=m.ca
 len:m'.m.fs.length=m.m.fs.length
 sll:m'.sl.length=m.sl.length
 spl:m'.sp.length=m.sp.length
 sp:∀a,a=p→bI m' a=zSp
 spo:∀a,a≠p→(bI m' a).lv=(bI m a).lv∧(bI m' a).ar=(bI m a).ar∧∀n,ent m' a n=ent m a n
 see:∀a n,a≠p→fO m' a n=fO m a n
 con:∀f i,Ay m.st f i→aX m' f i=aX m f i
 fr:∀g,(bn m' g).r≠0→(bn m' g).p=(bn m g).p∧(bn m' g).u=(bn m g).u∧(bn m' g).d=(bn m g).d∧(bn m' g).f=(bn m g).f∧(bn m' g).i=(bn m g).i
theorem Ki {m:Ma} (h:Rt m) (hc:Co m) {p:Nat} (hp:p<m.sp.length):∃m',DX m p=⟨m',0⟩∧Gone m m' p:=by
 obtain⟨m1,e1,h1⟩:=Ha (k:=⟨m,0⟩) h hc p 0 64
 have hall:∀n,ent m1 p n=zEn:=fun n=>by
  by_cases hb:0≤n∧n<64
  ·exact (h1.ents p n).1 ⟨rfl,by unfold GX;simp;omega⟩
  ·exact rW p (by omega)
 have hp1:p<m1.sp.length:=by rw[h1.vis.sk.len];exact hp
 obtain⟨a1,a2⟩:=yl h1.rt h1.co (q:=p) (s:=zSp) hp1 (fun n=>by rw[hall];rfl) (by decide) (fun _=>rfl) rfl
 have hsp:=fun a=>ja (m:=m1) (q:=p) (s:=zSp) hp1 a
 refine⟨iJ m1 p zSp,by unfold DX;rw[e1],a1,a2,h1.st,h1.dk,h1.sw,h1.ca,h1.len,h1.sll,?_,fun a ha=>by rw[hsp,if_pos ha],fun a ha => ?_,fun a n ha => ?_,fun f i hi => ?_,h1.fr⟩
 ·unfold iJ;rw[List.length_set];exact h1.vis.sk.len
 ·rw[hsp,if_neg ha]
  refine⟨h1.vis.sk.lv a,h1.vis.sk.ar a,fun n => ?_⟩
  unfold ent
  rw[hsp,if_neg ha]
  exact (h1.ents a n).2 fun h'=>ha h'.1
 ·have h2:fO (iJ m1 p zSp) a n=fO m1 a n:=xY rfl rfl rfl rfl (fun _=>⟨rfl,rfl⟩) (by rw[hsp,if_neg ha]) (by unfold ent;rw[hsp,if_neg ha];exact⟨rfl,rfl⟩)
  rw[h2]
  exact h1.vis.see a n fun h'=>ha h'.1
 ·have h2:aX (iJ m1 p zSp) f i=aX m1 f i:=rfl
  rw[h2]
  exact h1.vis.con f i hi
theorem LA {t u:Tb} (ht:bB t=0) (hu:bB u=0) (h:∀n,bT t n=bT u n):t=u:=by
 rw[←qU ht,←qU hu]
 unfold bA
 congr 1
 exact List.map_congr_left fun n _=>h n
def tL (t:List En):List Value:=(List.range 64).flatMap fun i=>gM (t.getD i zEn)
theorem qN (t:List En):(tL t).length=192:=by
 unfold tL
 rw[Pw.flat_len (fun i=>gM (t.getD i zEn)) 3 (fun _=>dx _),List.length_range]
structure MW where
 al:Option Addr
 cl:Nat
 l:List UInt8
 H:MH
 ab:Option Addr
 cb:Nat
 T:List (List En)
def eB (S:MW):Array Value:=#[.slice S.al S.l.length S.cl,.slice S.H.af S.H.m.fs.length S.H.cf,.int .i64 S.H.m.hand,.slice S.H.asl S.H.sl.length S.H.csl,.slice S.H.wb S.H.sw.blocks.length S.H.cwb,.slice S.H.wq S.H.sw.queue.length S.H.cwq,
 .slice S.H.db S.H.dk.blocks.length S.H.cdb,.slice S.H.dq S.H.dk.queue.length S.H.cdq,.slice S.H.ai S.H.fi.length S.H.ci,.int .i64 S.H.ct,.slice S.H.ac S.H.ca.length S.H.cc,.slice S.H.ap S.H.sp.length S.H.cp,.slice S.ab S.T.length S.cb]
def dN (S:MW):List (Option Nat):=[oB S.H.af,oB S.H.asl,oB S.H.wb,oB S.H.db,oB S.H.dq,oB S.H.ai,oB S.H.ac,oB S.H.ap,oB S.ab]
def iI (b:Nat) (S:MW) (x:Nat):Prop:=x=b∨some x∈dN S
structure cB (w:World) (B b:Nat) (S:MW):Prop where
 blk:aB w b (eB S) 89
 ge:B≤b
 ma:qW w B S.H
 tt:Own w B 95 192 (.slice S.ab S.T.length S.cb) S.T.length (S.T.flatMap tL)
 rd:lM w S.al S.cl S.l.length (S.l.map kK)
 ra:∀a,S.al=some a→S.l.map kK≠[]→a.block<B
 n1:∀x,oB S.H.wb=some x→oB S.H.db≠some x
 n2:∀p∈S.H.fi,∀x,oB p.a=some x→oB S.H.asl≠some x
 n3:S.H.wq=none
structure MS (w0:World) (b:Nat) (S0:MW) (w:World) (S:MW):Prop where
 os:w.os=w0.os
 tape:w.tape=w0.tape
 output:w.output=w0.output
 size:w0.heap.size≤w.heap.size
 keep:∀x,x<w0.heap.size→¬iI b S0 x→w.heap[x]?=w0.heap[x]?
 sn:∀x,iI b S x→iI b S0 x∨w0.heap.size≤x
theorem MS.refl (w:World) (b:Nat) (S:MW):MS w b S w S:=⟨rfl,rfl,rfl,Nat.le_refl _,fun _ _ _=>rfl,fun _ h => .inl h⟩
theorem MS.trans {w0 w1 w2:World} {b:Nat} {H0 H1 H2:MW} (h:MS w0 b H0 w1 H1) (k:MS w1 b H1 w2 H2):MS w0 b H0 w2 H2:=
 ⟨k.os.trans h.os,k.tape.trans h.tape,k.output.trans h.output,Nat.le_trans h.size k.size,fun x hx hn=>(k.keep x (Nat.lt_of_lt_of_le hx h.size) (fun hk=>(h.sn x hk).elim hn (fun hh=>absurd hx (Nat.not_lt.2 hh)))).trans (h.keep x hx hn),
  fun x hx=>(k.sn x hx).elim (h.sn x) (fun hh => .inr (Nat.le_trans h.size hh))⟩
theorem MS.below {w0 w w' : World} {b:Nat} {H0 H:MW} (h:MS w0 b H0 w H) (hb:Below w.heap.size w w'):MS w0 b H0 w' H:=
 ⟨hb.os.trans h.os,hb.tape.trans h.tape,hb.output.trans h.output,Nat.le_trans h.size hb.size,fun x hx hn=>(hb.block x (Nat.lt_of_lt_of_le hx h.size)).trans (h.keep x hx hn),h.sn⟩
theorem MS.put {w0 w w' : World} {b y:Nat} {H0 H H' : MW} (h:MS w0 b H0 w H) (hg:w.grownBy w' (some y)) (hy:iI b H y) (hn:∀x,iI b H' x→iI b H x∨w0.heap.size≤x):MS w0 b H0 w' H':=
 ⟨hg.os.trans h.os,hg.tape.trans h.tape,hg.output.trans h.output,Nat.le_trans h.size hg.size,fun x hx hnx=>(hg.block x (Nat.lt_of_lt_of_le hx h.size) (fun e=>by
  have e' : x=y:=Option.some.inj e
  rw[←e'] at hy
  exact (h.sn x hy).elim hnx (fun hh=>absurd hx (Nat.not_lt.2 hh)))).trans (h.keep x hx hnx),fun x hx=>(hn x hx).elim (h.sn x) .inr⟩
theorem MS.loc {w0 w w' : World} {b y:Nat} {H0 H:MW} (h:MS w0 b H0 w H) (hg:w.grownBy w' (some y)) (hy:w0.heap.size≤y):MS w0 b H0 w' H:=
 ⟨hg.os.trans h.os,hg.tape.trans h.tape,hg.output.trans h.output,Nat.le_trans h.size hg.size,fun x hx hnx=>(hg.block x (Nat.lt_of_lt_of_le hx h.size) (fun e=>by
  have e' : x=y:=Option.some.inj e
  omega)).trans (h.keep x hx hnx),h.sn⟩
theorem MS.same {w0 w:World} {b:Nat} {H0 H H' : MW} (h:MS w0 b H0 w H) (he:dN H' = dN H):MS w0 b H0 w H':=
 { h with sn:=fun x hx=>h.sn x (by unfold iI at hx ⊢; rw[←he];exact hx) }
theorem cB.lt {w:World} {B b:Nat} {S:MW} (h:cB w B b S):b<w.heap.size:=h.blk.lt
theorem cB.bs {w:World} {B b:Nat} {S:MW} (h:cB w B b S):B≤w.heap.size:=Nat.le_trans h.ge (Nat.le_of_lt h.lt)
theorem cB.below {w w' : World} {B b:Nat} {S:MW} (h:cB w B b S) (hb:Below w.heap.size w w'):cB w' B b S:=⟨h.blk.ext hb,h.ge,h.ma.below hb,h.tt.below hb,h.rd.below hb,h.ra,h.n1,h.n2,h.n3⟩
theorem cB.kb_own {w:World} {B b:Nat} {S:MW} (h:cB w B b S) {x:Nat} (hx:iI b S x):B≤x∧x<w.heap.size:=by
 have own:∀ {e:TypeId} {sz n c:Nat} {a:Option Addr} {xs:List Value},Own w B e sz (.slice a n c) n xs→oB a=some x→B≤x∧x<w.heap.size:=fun ho hx=>by
  obtain⟨h1,cs,h2⟩:=fe ho hx
  exact⟨h1,h2.lt⟩
 rcases hx with hx|hx
 ·rw[hx];exact⟨h.ge,h.lt⟩
 ·simp only[dN,List.mem_cons,List.not_mem_nil,or_false] at hx
  rcases hx with hx|hx|hx|hx|hx|hx|hx|hx|hx
  ·exact own h.ma.fr hx.symm
  ·exact own h.ma.sl hx.symm
  ·exact own h.ma.sw.b hx.symm
  ·exact own h.ma.dk.b hx.symm
  ·exact own h.ma.dk.q hx.symm
  ·exact own h.ma.st.own hx.symm
  ·exact own h.ma.ca hx.symm
  ·exact own h.ma.sp hx.symm
  ·exact own h.tt hx.symm
theorem MS.to {w0 w:World} {B B0 b:Nat} {S0 S:MW} (h:cB w0 B b S0) (hs:MS w0 b S0 w S) (hB:B0≤B):Below B0 w0 w:=
 ⟨hs.os,hs.tape,hs.output,hs.size,fun x hx=>hs.keep x (by have:=h.bs;omega) (fun hk=>by have:=(h.kb_own hk).1;omega)⟩
theorem MS.blkN {w0 w:World} {b x:Nat} {S0 S:MW} {cs:Array Value} {T:TypeId} (hs:MS w0 b S0 w S) (hk:aB w0 x cs T) (hx:¬iI b S0 x):aB w x cs T:=(hs.keep x hk.lt hx).trans hk
theorem MS.not {w0 w:World} {b x:Nat} {S0 S:MW} (hs:MS w0 b S0 w S) (hl:x<w0.heap.size) (hx:¬iI b S0 x):¬iI b S x:=fun h=>(hs.sn x h).elim hx (fun h=>by omega)
theorem MS.ownN {w0 w:World} {b B' : Nat} {S0 S:MW} {t:TypeId} {sz n:Nat} {v:Value} {xs:List Value} (hs:MS w0 b S0 w S) (ho:Own w0 B' t sz v n xs) (hx:∀x,v.ownBlock=some x→¬iI b S0 x):Own w B' t sz v n xs:=
 ⟨ho.1,ho.2.imp id fun⟨g,off,cap,cur,hv,hB,hk,r⟩=>⟨g,off,cap,cur,hv,hB,hs.blkN hk (hx g (by rw[hv];rfl)),r⟩⟩
theorem cB.new {w:World} {B b:Nat} {S:MW} (h:cB w B b S) {x:Nat} (hx:w.heap.size≤x):¬iI b S x:=fun hk=>by have:=(h.kb_own hk).2;omega
theorem lM.keep {w w' : World} {B:Nat} {a:Option Addr} {c n:Nat} {vs:List Value} (h:lM w a c n vs) (ha:∀x,a=some x→vs≠[]→x.block<B) (hB:B≤w.heap.size) {g:Nat} (hg:w.grownBy w' (some g)) (hgB:B≤g):lM w' a c n vs:=
 ⟨h.le,h.mx,h.nl,fun i u hi=>by
  obtain⟨b',o',e,hc⟩:=h.rd i u hi
  have hl:b' < B:=ha _ e (fun e0=>by rw[e0] at hi;cases hi)
  exact⟨b',o',e,hg.cell hc (fun e=>by have h3:b' = g:=Option.some.inj e;omega)⟩⟩
theorem cB.putL {w w' : World} {B b:Nat} {S:MW} (h:cB w B b S) {a:Option Addr} {c:Nat} {l:List UInt8} (hr:lM w a c l.length (l.map kK)) (ha:∀x,a=some x→l.map kK≠[]→x.block<B) (hb:aB w' b (putAt (eB S) 0 [.slice a l.length c]) 89) (hg:w.grownBy w' (some b)) :
  cB w' B b { S with al:=a,cl:=c,l:=l }:=
 ⟨hb,h.ge,h.ma.keep h.blk (by decide) hg,aj h.tt h.blk (by decide) hg,hr.keep ha h.bs hg h.ge,ha,h.n1,h.n2,h.n3⟩
theorem qW.putF {w w' : World} {B:Nat} {H:MH} (h:qW w B H) {g:Nat} {cs:Array Value} (hk:aB w g cs 59) (hg:w.grownBy w' (some g)) {m:Mem} (ho:Own w' B 59 13 (.slice H.af m.fs.length H.cf) m.fs.length (m.fs.flatMap ng)):qW w' B { H with m:=m }:=
 ⟨ho,aj h.sl hk (by decide) hg,h.sw.keep hk (by decide) (by decide) hg,h.dk.keep hk (by decide) (by decide) hg,h.st.keep hk (by decide) (by decide) hg,aj h.ca hk (by decide) hg,aj h.sp hk (by decide) hg,fun p hp=>⟨aj (h.ps p hp).1 hk (by decide) hg,(h.ps p hp).2.keep hk (by decide) hg⟩,h.c64⟩
theorem cB.putF {w w' : World} {B b:Nat} {S:MW} (h:cB w B b S) {g:Nat} {cs:Array Value} (hk:aB w g cs 59) (hgB:B≤g) (hg:w.grownBy w' (some g)) {fs:List Fr} (hl:fs.length=S.H.m.fs.length) (ho:Own w' B 59 13 (.slice S.H.af fs.length S.H.cf) fs.length (fs.flatMap ng)) :
  cB w' B b { S with H:={ S.H with m:=⟨fs,S.H.m.hand⟩ } }:=
 ⟨by
  have h1:=bq h.blk hk (by decide) hg
  have e:eB { S with H:={ S.H with m:=⟨fs,S.H.m.hand⟩ } }=eB S:=by unfold eB;rw[show ({ S.H with m:=⟨fs,S.H.m.hand⟩ }:MH).m.fs.length=S.H.m.fs.length from hl]
  rw[e];exact h1,h.ge,h.ma.putF hk hg (m:=⟨fs,S.H.m.hand⟩) ho,aj h.tt hk (by decide) hg,h.rd.keep h.ra h.bs hg hgB,h.ra,h.n1,h.n2,h.n3⟩
theorem DY (t:List En) (i r:Nat) (hi:i<64) (hr:r<3):(tL t)[i*3+r]?=(gM (t.getD i zEn))[r]?:=by
 unfold tL
 rw[gG (fun i=>gM (t.getD i zEn)) 3 (fun _=>dx _) (List.range 64) i (by rw[List.length_range];exact hi) r hr,List.getElem_range]
theorem Lu {t:List En} {n:Nat} {x:En} (hl:t.length=64) (hn:n<64) (cur:Array Value) (o:Nat) (hs:o+192≤cur.size) (hc:∀j u,(tL t)[j]?=some u→cur[o+j]?=some u) :
  putAt cur (o+n*3) (gM x)=putAt cur o (tL (t.set n x)):=by
 have hset:∀i,i<64→(t.set n x).getD i zEn=if i=n then x else t.getD i zEn:=fun i hi=>by
  rw[List.getD_eq_getElem?_getD,List.getElem?_set]
  by_cases e:i=n
  ·subst e;rw[if_pos rfl,if_pos (by omega),if_pos rfl];rfl
  ·rw[if_neg (fun h=>e h.symm),if_neg e,List.getD_eq_getElem?_getD]
 apply Array.ext_getElem?
 intro m
 have hl3:(gM x).length=3:=dx x
 have hl192:=qN (t.set n x)
 by_cases h1:o≤m∧m<o+192
 ·obtain⟨d,rfl⟩:∃d,m=o+d:=⟨m-o,by omega⟩
  have hd:d<192:=by omega
  obtain⟨i,r,hi,hr,rfl⟩:∃i r,i<64∧r<3∧d=i*3+r:=⟨d / 3,d%3,by omega,by omega,by omega⟩
  obtain⟨u,hu⟩:∃u,(tL (t.set n x))[i*3+r]?=some u:=⟨_,List.getElem?_eq_getElem (by omega)⟩
  rw[putAt_in _ _ _ _ u (by rw[hl192];exact hs) hu]
  rw[DY _ i r hi hr,hset i hi] at hu
  by_cases e:i=n
  ·subst e
   rw[if_pos rfl] at hu
   rw[←Nat.add_assoc]
   exact putAt_in _ _ _ _ u (by omega) hu
  ·rw[if_neg e] at hu
   rw[putAt_out _ _ _ _ (by omega)]
   exact hc _ _ (by rw[DY _ i r hi hr];exact hu)
 ·rw[putAt_out _ _ _ _ (by omega),putAt_out _ _ _ _ (by omega)]
theorem cB.lst_len {S:MW} {p:Nat} (hp:p<S.T.length):dw S.T p=S.T[p]:=by
 unfold dw
 rw[List.getD_eq_getElem?_getD,List.getElem?_eq_getElem hp];rfl
theorem cB.ent {w:World} {B b:Nat} {S:MW} (h:cB w B b S) {p n:Nat} (hp:p<S.T.length) (hn:n<64) (h64:(dw S.T p).length=64) :
  ∃g off cur,S.ab=some ⟨g,off,none⟩∧B≤g∧aB w g cur 95∧off+p*192+n*3+3≤cur.size∧(∀j u,(gM (dz S.T p n))[j]?=some u→w.cell? ⟨g,off+p*192+n*3+j,none⟩=some u) ∧
   ∀w' x,aB w' g (putAt cur (off+p*192+n*3) (gM x)) 95→w.grownBy w' (some g)→cB w' B b { S with T:=setL S.T p n x }:=by
 obtain⟨g,off,cap,cur,hv,hB,hg,hs,hc,hw⟩:=h.tt.put qN (by decide) p hp
 simp only[Value.slice.injEq] at hv
 obtain⟨hv,_,_⟩:=hv
 refine⟨g,off,cur,hv,hB,hg,by omega,fun j u hj => ?_,fun w' x hw' hgr => ?_⟩
 ·have hj3:j<3:=by
   rcases Nat.lt_or_ge j 3 with h|h
   ·exact h
   ·rw[List.getElem?_eq_none (by rw[dx];exact h)] at hj;cases hj
  have:=hc (n*3+j) u (by rw[DY _ n j hn hj3,←cB.lst_len hp];exact hj)
  rw[←this]
  congr 2
  omega
 ·have hcur:∀j u,(tL (dw S.T p))[j]?=some u→cur[off+p*192+j]?=some u:=fun j u hj=>by
   rw[cB.lst_len hp] at hj
   have:=hc j u hj
   rw[hg.cell] at this
   exact this
  rw[Lu h64 hn cur _ (by omega) hcur] at hw'
  have ho:=hw w' _ hw'
  have hlen:({ S with T:=setL S.T p n x }:MW).T.length=S.T.length:=by show (setL S.T p n x).length=_;unfold setL;rw[List.length_set]
  refine⟨?_,h.ge,h.ma.keep hg (by decide) hgr,?_,h.rd.keep h.ra h.bs hgr hB,h.ra,h.n1,h.n2,h.n3⟩
  ·have e:eB { S with T:=setL S.T p n x }=eB S:=by unfold eB;rw[hlen]
   rw[e]
   exact bq h.blk hg (by decide) hgr
  ·rw[hlen];exact ho
theorem cB.putS {w w' : World} {B b : Nat} {S : MW} (h : cB w B b S) {g : Nat} {cs : Array Value} (hk : aB w g cs 3) (hgB : B ≤ g) (hga : oB S.H.asl = some g) (hg : w.grownBy w' (some g)) {sl : List Int} (hl : sl.length = S.H.sl.length) (ho : Own w' B 3 1 (.slice S.H.asl sl.length S.H.csl) sl.length (sl.map dE)) :
    cB w' B b { S with H := { S.H with sl := sl } } :=
  ⟨by
    have h1 := bq h.blk hk (by decide) hg
    have e : eB { S with H := { S.H with sl := sl } } = eB S := by unfold eB; rw [show ({ S.H with sl := sl } : MH).sl.length = S.H.sl.length from hl]
    rw [e]; exact h1, h.ge,
   ⟨aj h.ma.fr hk (by decide) hg, ho, h.ma.sw.keep hk (by decide) (by decide) hg, h.ma.dk.keep hk (by decide) (by decide) hg, ⟨aj h.ma.st.own hk (by decide) hg, fun i p hp => (h.ma.st.each i p hp).grown hg (fun g' hg' e => by
      cases e
      unfold lN at hg'
      rw [iw] at hg'
      exact h.n2 p (List.mem_of_getElem? hp) _ hg' hga), h.ma.st.apart⟩, aj h.ma.ca hk (by decide) hg, aj h.ma.sp hk (by decide) hg, fun p hp => ⟨aj (h.ma.ps p hp).1 hk (by decide) hg, (h.ma.ps p hp).2.keep hk (by decide) hg⟩, h.ma.c64⟩,
   aj h.tt hk (by decide) hg, h.rd.keep h.ra h.bs hg hgB, h.ra, h.n1, h.n2, h.n3⟩
theorem cB.putW {w w' : World} {B b : Nat} {S : MW} (h : cB w B b S) {g : Nat} {cs : Array Value} (hk : aB w g cs 50) (hgB : B ≤ g) (hga : oB S.H.wb = some g) (hg : w.grownBy w' (some g)) {l : List Page} (hl : l.length = S.H.sw.blocks.length) (ho : Own w' B 50 8 (.slice S.H.wb l.length S.H.cwb) l.length (l.flatMap uV)) :
    cB w' B b { S with H := { S.H with sw := ⟨l, S.H.sw.queue⟩ } } :=
  ⟨by
    have h1 := bq h.blk hk (by decide) hg
    have e : eB { S with H := { S.H with sw := ⟨l, S.H.sw.queue⟩ } } = eB S := by unfold eB; rw [show ({ S.H with sw := ⟨l, S.H.sw.queue⟩ } : MH).sw.blocks.length = S.H.sw.blocks.length from hl]
    rw [e]; exact h1, h.ge,
   ⟨aj h.ma.fr hk (by decide) hg, aj h.ma.sl hk (by decide) hg, ⟨ho, aj h.ma.sw.q hk (by decide) hg⟩, ⟨h.ma.dk.b.grown hg (fun g' hg' e => by
      cases e
      rw [iw] at hg'
      exact h.n1 _ hga hg'), aj h.ma.dk.q hk (by decide) hg⟩, h.ma.st.keep hk (by decide) (by decide) hg, aj h.ma.ca hk (by decide) hg, aj h.ma.sp hk (by decide) hg, fun p hp => ⟨aj (h.ma.ps p hp).1 hk (by decide) hg, (h.ma.ps p hp).2.keep hk (by decide) hg⟩, h.ma.c64⟩,
   aj h.tt hk (by decide) hg, h.rd.keep h.ra h.bs hg hgB, h.ra, h.n1, h.n2, h.n3⟩
theorem cB.setC {w w' : World} {B b:Nat} {S:MW} (h:cB w B b S) {a:Option Addr} {c:Nat} {l:List Cc} (ho:Own w B 85 3 (.slice a l.length c) l.length (l.flatMap kJ)) (hb:aB w' b (putAt (eB S) 10 [.slice a l.length c]) 89) (hg:w.grownBy w' (some b)) :
  cB w' B b { S with H:={ S.H with ac:=a,cc:=c,ca:=l } }:=
 ⟨hb,h.ge,{ h.ma.keep h.blk (by decide) hg with ca:=aj ho h.blk (by decide) hg },aj h.tt h.blk (by decide) hg,h.rd.keep h.ra h.bs hg h.ge,h.ra,h.n1,h.n2,h.n3⟩
def MW.lst (S:MW) (a:Option Addr) (c:Nat) (l:List UInt8):MW:={ S with al:=a,cl:=c,l:=l }
theorem jg (S:MW) (a a' : Option Addr) (c c' : Nat) (l l' : List UInt8):(S.lst a c l).lst a' c' l' = S.lst a' c' l':=rfl
theorem Fu {w:World} {a:Option Addr} {x:UInt8} {l:List UInt8} (h:bZ w a ((x::l).map kK)):∃b o,a=some ⟨b,o,none⟩∧w.cell? ⟨b,o,none⟩=some (kK x)∧bZ w (some ⟨b,o+1,none⟩) (l.map kK):=by
 obtain⟨b,o,rfl,hc⟩:=h.at (by simp)
 exact⟨b,o,rfl,hc 0 _ rfl,fun i u hi=>⟨b,o+1,rfl,by
  have:=hc (i+1) u (by simpa using hi)
  rw[show o+1+i=o+(i+1) by omega];exact this⟩⟩
theorem cB.locT {w w' : World} {B b:Nat} {S:MW} (h:cB w B b S) {g:Nat} {cs:Array Value} {T:TypeId} (hk:aB w g cs T) (hT:T≠3∧T≠69∧T≠67) (hn:¬iI b S g) (hgB:B≤g) (hg:w.grownBy w' (some g)):cB w' B b S:=by
 have hne:∀ {a:Option Addr},oB a∈dN S→∀n c g',(Value.slice a n c).ownBlock=some g'→some g≠some g':=fun hm n c g' he e=>by
  cases e
  rw[iw] at he
  exact hn (.inr (by rw[←he];exact hm))
 have m:∀ {x:Option Nat} {l:List (Option Nat)},x∈x::l:=List.mem_cons_self
 refine⟨h.blk.grown hg (fun e=>hn (.inl (Option.some.inj e))),h.ge,⟨h.ma.fr.grown hg (hne (by simp[dN]) _ _),h.ma.sl.grown hg (hne (by simp[dN]) _ _),⟨h.ma.sw.b.grown hg (hne (by simp[dN]) _ _),h.ma.sw.q.grown hg (fun g' he=>by rw[h.n3] at he;cases he)⟩,⟨h.ma.dk.b.grown hg (hne (by simp[dN]) _ _),h.ma.dk.q.grown hg (hne (by simp[dN]) _ _)⟩,
  ⟨h.ma.st.own.grown hg (hne (by simp[dN]) _ _),fun i p hp=>aj (h.ma.st.each i p hp) hk hT.1 hg,h.ma.st.apart⟩,h.ma.ca.grown hg (hne (by simp[dN]) _ _),h.ma.sp.grown hg (hne (by simp[dN]) _ _),fun p hp=>⟨aj (h.ma.ps p hp).1 hk hT.2.1 hg,(h.ma.ps p hp).2.keep hk hT.2.2 hg⟩,h.ma.c64⟩,
  h.tt.grown hg (hne (by simp[dN]) _ _),h.rd.keep h.ra h.bs hg hgB,h.ra,h.n1,h.n2,h.n3⟩
def MB (S:MW) (n:Int) (B b:Nat) (w:World) (r:Ending) (w' : World):Prop:=∃x a c l,r = .returned (.int .i64 x)∧cB w' B b (S.lst a c l)∧MS w b S w' (S.lst a c l)∧(0≤x∧x<256∧(x<n∨x=0))∧(S.l=[]→x=0∧l=[])
theorem dA (S:MW) (n:Int) (B b:Nat) (w:World) (h:cB w B b S) (hn : -9223372036854775808≤n∧n≤9223372036854775807) :
  Calls Try.prog 28 #[.pointer (some ⟨b,0,none⟩),.int .i64 n] w (MB S n B b w):=by
 obtain⟨al,cl,l,H,ab,cb,T⟩:=S
 have hr:lM w al cl l.length (l.map kK):=h.rd
 have hra:∀a,al=some a→l.map kK≠[]→a.block<B:=h.ra
 have hc:=h.blk.cell
 unfold eB at hc
 dsimp only at hc
 have h':=Lib.hid h
 have hra':=Lib.hid hra
 go_enter Try.func28,Try.ntmps28
 cases l with
 | nil=>
  clear h hr hra
  go_wp2
  go_ret
  exact⟨0,al,cl,[],rfl,h'.out,MS.refl _ _ _,by omega,fun _=>⟨rfl,rfl⟩⟩
 | cons x l=>
  obtain⟨bl,ol,rfl,hcb,hrd⟩:=Fu hr.rd
  have hrl:l.length+1≤cl:=by have:=hr.le;simpa using this
  have hrm:=Lib.hid hr.mx
  have hrd':=Lib.hid hrd
  have hblk:=h.blk
  clear h hr hra hrd
  unfold kK at hcb
  by_cases hn1:n<1
  ·go_wp2
   go_ret
   exact⟨0,_,cl,x::l,rfl,h'.out,MS.refl _ _ _,by omega,fun e=>(by cases e)⟩
  ·have hl1:(1:Int)≤((l.length+1:Nat):Int):=by omega
   have h1:=Lib.hid x.toNat_lt
   have hx0:Hid ((0:Int)≤(x.toNat:Int)%n∧(x.toNat:Int)%n<256∧((x.toNat:Int)%n<n∨(x.toNat:Int)%n=0)):=Lib.hid (by
    have h3:=Int.emod_nonneg (x.toNat:Int) (show n≠0 by omega)
    have h4:=Int.emod_lt_of_pos (x.toNat:Int) (show (0:Int)<n by omega)
    have h6:(x.toNat:Int)%n≤(x.toNat:Int):=by
     obtain⟨N,rfl⟩:=Int.eq_ofNat_of_zero_le (show 0≤n by omega)
     rw[←Int.natCast_emod]
     have:=Nat.mod_le x.toNat N
     omega
    have:=h1.out
    omega)
   have hxw:IntKind.i64.wrap (x.toNat:Int)=(x.toNat:Int):=IntWalk.i64_in _ (by have:=h1.out;omega)
   by_cases hcl:cl=1
   ·subst hcl
    obtain rfl:l=[]:=List.length_eq_zero_iff.1 (by omega)
    go_wp2_with (refine ay rfl _ _ _ rfl b 0 _ [.slice (some ⟨bl,ol,none⟩) 0 0] rfl rfl rfl _ _ hblk (by show 0+1≤13;omega) (by kernel_rfl) (fun u hu=>by cases List.mem_singleton.1 hu;rfl) ?_)
    intro w1 hb1 hg1
    clear hc hcb
    go_wp2
    go_ret
    have hs:lM w (some ⟨bl,ol,none⟩) 0 0 (([]:List UInt8).map kK):=⟨Nat.le_refl _,Nat.zero_le _,fun e=>(by cases e),bZ.nil⟩
    exact⟨_,some ⟨bl,ol,none⟩,0,[],rfl,h'.out.putL hs (fun a e _=>by cases e;exact hra'.out _ rfl (by simp)) hb1 hg1,(MS.refl w b _).put hg1 (.inl rfl) fun x hx => .inl hx,hx0.out,fun e=>(by cases e)⟩
   ·go_wp2_with (refine ay rfl _ _ _ rfl b 0 _ [.slice (some ⟨bl,ol+1,none⟩) l.length (cl-1)] rfl rfl rfl _ _ hblk (by show 0+1≤13;omega) (by kernel_rfl) (fun u hu=>by cases List.mem_singleton.1 hu;rfl) ?_)
    intro w1 hb1 hg1
    clear hc hcb
    go_wp2
    go_ret
    have hs:lM w (some ⟨bl,ol+1,none⟩) (cl-1) l.length (l.map kK):=⟨by omega,by have:=hrm.out;omega,fun e=>(by cases e),hrd'.out⟩
    exact⟨_,some ⟨bl,ol+1,none⟩,cl-1,l,rfl,h'.out.putL hs (fun a e _=>by cases e;exact hra'.out ⟨bl,ol,none⟩ rfl (by simp)) hb1 hg1,(MS.refl w b _).put hg1 (.inl rfl) fun x hx => .inl hx,hx0.out,fun e=>(by cases e)⟩
def ME (S:MW) (B b:Nat) (w:World) (r:Ending) (w' : World):Prop:=∃P a c l,r = .returned (.agg (dO P))∧cB w' B b (S.lst a c l)∧MS w b S w' (S.lst a c l)
theorem pq (S:MW) (B b:Nat) (w:World) (h:cB w B b S) :
  Calls Try.prog 31 #[.pointer (some ⟨b,0,none⟩)] w (ME S B b w):=by
 have hBs:=Lib.hid h.bs
 go_enter Try.func31,Try.ntmps31
 go_upto_region 3 with (fail)
 refine nQ (fun W=>Code.wp _ _ _ _ W) fun w1 hb1 bx1 rx1 hs1 => ?_
 have h1:=h.below hb1
 have s1:=(MS.refl w b S).below hb1
 have hn0:=Lib.hid (h.new (Nat.le_refl _))
 have hn1:=Lib.hid (h.new (Nat.le_succ _))
 clear h
 go_loopw [5] (fun k wr => ∃(q:Nat) (P:Page) (a:Option Addr) (c:Nat) (l:List UInt8),q≤8∧k = .int .i64 q∧cB wr B b (S.lst a c l)∧MS w b S wr (S.lst a c l)∧aB wr w.heap.size (dO zPg) 50∧aB wr (w.heap.size+1) (dO P) 50) (fun k _=>8-(intOf k).toNat)
 case atStart=>exact⟨0,zPg,S.al,S.cl,S.l,Nat.zero_le _,rfl,h1,s1,bx1,rx1⟩
 case round=>
  clear h1 s1 bx1 rx1 hb1 hs1
  obtain⟨q,P,a,c,l,hq,rfl,hm,hs,bx,rx⟩:=hrel
  have hsz:w.heap.size+2≤wr.heap.size:=rx.lt
  by_cases hq8:q<8
  ·have hqi:(q:Int)<8:=by omega
   go_wp2_with fail
   refine (dA _ 4 B b _ hm (by omega)).mono ?_
   rintro r w2 ⟨x,a2,c2,l2,rfl,hm2,hs2,hx,_⟩
   rw[jg] at hm2 hs2
   have bx2:=hs2.blkN bx hn0.out
   have rx2:=hs2.blkN rx hn1.out
   have hst:=hs.trans hs2
   obtain⟨x,rfl⟩:∃y:UInt8,x=(y.toNat:Int):=⟨UInt8.ofNat x.toNat,by rw[UInt8.toNat_ofNat'];omega⟩
   have hx2:((x.toNat:Nat):Int)<256:=hx.2.1
   clear hm hs bx rx hs2 hx
   go_wp2_with (refine ay rfl _ _ _ rfl (w.heap.size+1) q _ [.int .u8 x.toNat] rfl rfl rfl _ _ rx2 (by show q+1≤8;omega) (by kernel_rfl) (fun u hu=>by cases List.mem_singleton.1 hu;rfl) ?_)
   intro w3 rx3 hg3
   rw[iZ,vw _ q hq8] at rx3
   have hm3:=hm2.locT rx2 (by decide) hn1.out (by have:=hBs.out;omega) hg3
   have hs3:=hst.loc hg3 (Nat.le_succ _)
   have bx3:=bx2.grown hg3 (fun e=>by have:=Option.some.inj e;omega)
   clear hm2 hst bx2 rx2 hg3
   go_wp2
   go_roundw
   case rel=>exact⟨q+1,_,a2,c2,l2,by omega,by go_num,hm3,hs3,bx3,rx3⟩
   case measure=>simp[intOf];omega
  ·have hqi:¬(q:Int)<8:=by omega
   go_wp2_with (first | (refine ak _ _ rfl (w.heap.size+1) 0 rfl rfl _ rx.rd _ Try.underlying50 rfl psize ?_) | (refine ax rfl _ _ _ rfl w.heap.size (dO P) rfl rfl _ _ bx rfl psize (dP _) ?_))
   intro w3 bx3 hg3
   go_wp2
   refine bodyPost_ret (v:=.agg (dO P)) (bY Try.results31 _ _ w.heap.size _ _ _ rfl bx3 Try.underlying50 rfl psize) rfl ?_
   exact⟨P,a,c,l,rfl,hm.locT bx (by decide) hn0.out (by have:=hBs.out;omega) hg3,hs.loc hg3 (Nat.le_refl _)⟩
def MW.frs (S:MW) (fs:List Fr):MW:={ S with H:={ S.H with m:=⟨fs,S.H.m.hand⟩ } }
def LP (S:MW) (f:Fr) (B b:Nat) (w:World) (r:Ending) (w' : World):Prop:=∃x a c l fs,r = .returned (.int .i64 x)∧cB w' B b ((S.lst a c l).frs fs)∧MS w b S w' ((S.lst a c l).frs fs) ∧
   ((x = -1∧fs=S.H.m.fs)∨∃j:Nat,x=j∧j<S.H.m.fs.length∧(bn S.H.ma j).r=0∧fs=S.H.m.fs.set j f)
theorem vH (S:MW) (f:Fr) (B b:Nat) (w:World) (h:cB w B b S) (hz:S.H.m.fs.length≤1000) :
  Calls Try.prog 108 #[.pointer (some ⟨b,0,none⟩),.agg (qa f)] w (LP S f B b w):=by
 go_enter Try.func108,Try.ntmps108
 go_upto_region 1 with (fail)
 refine eP (fun W=>Code.wp _ _ _ _ W) fun w1 hb1 bx1 hs1 => ?_
 have h1:=h.below hb1
 have s1:=(MS.refl w b S).below hb1
 have hn0:=Lib.hid (h.new (Nat.le_refl _))
 have hBs:=Lib.hid h.bs
 have hc:=h1.blk.cell
 unfold eB at hc
 clear h hb1
 go_wp2_with fail
 refine (dA _ _ B b _ h1 (by omega)).mono ?_
 rintro r w2 ⟨x,a2,c2,l2,rfl,hm2,hs2,hx,_⟩
 have bx2:=hs2.blkN bx1 hn0.out
 have hst:=s1.trans hs2
 clear h1 s1 hc hs2 bx1 hs1
 go_upto_region 4 with (fail)
 generalize hnn:S.H.m.fs.length=n at *
 go_loopw [20] (fun k wr => ∃q:Nat,q≤n∧k = .int .i64 q∧wr=w2) (fun k _=>n-(intOf k).toNat)
 case atStart=>exact⟨0,Nat.zero_le _,rfl,rfl⟩
 case round=>
  obtain⟨q,hq,rfl,rfl⟩:=hrel
  have hc:=hm2.blk.cell
  unfold eB at hc
  dsimp only[MW.lst] at hc
  rw[hnn] at hc
  by_cases hqn:q<n
  ·have hqi:(q:Int)<(n:Int):=by omega
   obtain⟨X,rfl⟩:=Int.eq_ofNat_of_zero_le hx.1
   have hx1:(X:Int)<256:=hx.2.1
   obtain⟨j,hjn,hj⟩:∃j:Nat,j<n∧((X:Int)+(q:Int))%(n:Int)=j:=⟨(X+q)%n,Nat.mod_lt _ (by omega),by rw[←Int.natCast_add,←Int.natCast_emod]⟩
   have hji:(j:Int)<(n:Int):=by omega
   obtain⟨g,off,cap,cur,hv,hgB,hg,hgs,hgc,hgw⟩:=hm2.ma.fr.put eu (by decide) j (by show j<S.H.m.fs.length;omega)
   have haf:S.H.af=some ⟨g,off,none⟩:=(Value.slice.inj hv).1
   rw[haf] at hc
   have c8:wr.cell? ⟨g,off+j*13+8,none⟩=some (.int .i64 (S.H.m.fs[j]'(by omega)).r):=hgc 8 _ rfl
   have hfj:Hid (bn S.H.ma j=S.H.m.fs[j]'(by omega)):=Lib.hid (by
    unfold bn
    show S.H.m.fs.getD j fr0=_
    rw[List.getD_eq_getElem?_getD,List.getElem?_eq_getElem (by omega)];rfl)
   clear hv
   have hgw':=Lib.hid hgw
   have hgc':=Lib.hid hgc
   clear hgw hgc
   generalize S.H.m.fs[j]'(by omega)=Y at c8 hfj
   by_cases hr:Y.r=0
   ·rw[hr] at c8
    have hne:g≠w.heap.size:=fun e=>hn0.out (.inr (by rw[←e];simp[dN,haf,oB];left;rfl))
    go_upto_region 8 with (fail)
    refine aC 9 [_,_,_,_,_,_,.v (.int .i64 (j:Int)),_,_] (Gk rfl (Gk rfl (Gf b 1 rfl rfl (Gf b 1 rfl rfl (Gf b 1 rfl rfl (Gl hm2.blk (V:=.slice (some ⟨g,off,none⟩) n S.H.cf) (by simp[eB,MW.lst,haf,hnn]) rfl rfl rfl rfl (all_cons ?_ (Gr (.agg #[.int .u8 f.p[0].toNat,.int .u8 f.p[1].toNat,.int .u8 f.p[2].toNat,.int .u8 f.p[3].toNat,.int .u8 f.p[4].toNat,.int .u8 f.p[5].toNat,.int .u8 f.p[6].toNat,.int .u8 f.p[7].toNat,.int .i64 f.r,.bool f.u,.bool f.d,.int .i64 f.f,.int .i64 f.i]) (fun ρ y W hb hKn=>(bN rfl (az rfl hKn) (bG (bx2.ext hb) 0 13) Try.underlying59 rfl (by kernel_rfl))) rfl rfl (Gr (.pointer (some ⟨g,off+j*13,none⟩)) (fun ρ y W hb hKn=>(aR rfl (az rfl hKn) (az rfl hKn) hjn Try.underlying25 frame_size)) rfl rfl (all_nil)))))))))) (fun _=>rfl) rfl ?_
    ·intro ρ y W hw hn hb hd;have E8:ρ (.tmp 8) = .int .i64 (j:Int):=(hn (.tmp 8) rfl).trans (by show Value.int IntKind.i64 (((X:Int)+(q:Int))%(n:Int))=_;rw[hj])
     refine ah (.int .i64 (j:Int)) (ag rfl) (run_move (.inl rfl) E8) rfl
    intro y W3 hbW3 _
    have hm3:=hm2.below hbW3
    have hg3:=hg.ext hbW3
    have hs3:=hst.below hbW3
    clear hm2 bx2 hst hbW3 hg hc c8
    go_wp2_with (refine ay rfl _ _ _ rfl g (off+j*13) _ (ng f) rfl rfl rfl _ _ hg3 (by rw[eu];exact hgs) (by kernel_rfl) (aY (kV f)) ?_)
    intro w4 h4 hg4
    have ho4:=hgw'.out _ f h4
    have hm4:=hm3.putF hg3 hgB hg4 (fs:=S.H.m.fs.set j f) (by simp[MW.lst]) (by simpa[MW.lst] using ho4)
    have hs4:=hs3.put hg4 (H':=(S.lst a2 c2 l2).frs (S.H.m.fs.set j f)) (.inr (by simp[dN,MW.lst,haf,oB];left;rfl)) (fun x hx => .inl hx)
    clear hm3 hs3 hg3 hg4 h4 ho4
    go_wp2
    go_ret
    exact⟨j,a2,c2,l2,_,rfl,hm4,hs4,.inr ⟨j,rfl,by omega,by rw[hfj.out];exact hr,rfl⟩⟩
   ·go_wp2
    go_roundw
    case rel=>exact⟨q+1,by omega,by go_num,by first | rfl | trivial⟩
    case measure=>simp[intOf];omega
  ·have hqi:¬(q:Int)<(n:Int):=by omega
   go_wp2
   go_ret
   exact⟨-1,a2,c2,l2,S.H.m.fs,rfl,hm2,hst,.inl ⟨rfl,rfl⟩⟩
def qi (f s b:Int):Ma:=if (0≤f∧f≤40)∧(0≤s∧s≤60)∧(0≤b∧b≤80) then ⟨ER f,Gt s,zb s,zb b,⟨[],b⟩,[],[⟨true,[],zTb⟩]⟩ else zMa
def noH:MH:=⟨none,0,noM,none,0,[],none,0,none,0,⟨[],[]⟩,none,0,none,0,⟨[],[]⟩,none,0,[],0,none,0,[],none,0,[]⟩
def nTs:Vector Value 8:=⟨#[.slice none 0 0,.slice none 0 0,.slice none 0 0,.slice none 0 0,.slice none 0 0,.slice none 0 0,.slice none 0 0,.slice none 0 0],rfl⟩
theorem JC {w:World} {b o:Nat} {xs ys:List Value} (h:bZ w (some ⟨b,o,none⟩) (xs++ys)):bZ w (some ⟨b,o,none⟩) xs:=fun i u hi=>h i u (by
 rw[List.getElem?_append_left (List.getElem?_eq_some_iff.1 hi).1];exact hi)
theorem GH (x:Fr):∃ys,ng x=uV x.p++ys:=⟨_,rfl⟩
theorem Fx {l:List Cc} {q:Nat} {c:Cc} {f i:Int} (hc:l[q]?=some c) (hno:∀d∈l.take q,¬(d.f=f∧d.i=i)) (hy:c.f=f∧c.i=i):l.find? (fun c=>decide (c.f=f)&&decide (c.i=i))=some c:=by
 rw[←List.take_append_drop q l,List.find?_append,List.find?_eq_none.2 (fun d hd=>by
  have:=hno d hd
  simp only[Bool.and_eq_true,decide_eq_true_eq]
  exact this)]
 rw[List.drop_eq_getElem_cons (List.getElem?_eq_some_iff.1 hc).1,(List.getElem?_eq_some_iff.1 hc).2,List.find?_cons,hy.1,hy.2]
 simp
theorem wD {l:List Cc} {f i:Int} (hno:∀d∈l,¬(d.f=f∧d.i=i)):l.find? (fun c=>decide (c.f=f)&&decide (c.i=i))=none:=
 List.find?_eq_none.2 (fun d hd=>by
  have:=hno d hd
  simp only[Bool.and_eq_true,decide_eq_true_eq]
  exact this)
theorem mR (H:MH) (f i:Int) (w:World) (h:qV w H) (hz:H.ca.length≤1000∧∀f∈H.ma.st.fs,f.b.length≤1000) (hck:∀c∈H.ca,0≤c.k∧c.k<H.m.fs.length) (hf:0≤f∧f<H.fi.length) (hi:0≤i∧i<(fileAt H.ma.st f).b.length) :
  Calls Try.prog 62 #[.agg (bM H),.int .i64 f,.int .i64 i] w fun r w'=>r = .returned (.agg (dO (aX H.ma f i)))∧Below w.heap.size w w':=by
 have z7:H.ca.length≤1000:=hz.1
 go_enter Try.func62,Try.ntmps62
 go_upto_region 1 with (fail)
 refine nQ (fun W=>Code.wp _ _ _ _ W) fun w1 hb0 bx1 rx1 hs1 => ?_
 clear hs1
 have hcb:=bx1.cell
 unfold bM at hcb
 go_upto_region 2 with (fail)
 clear hcb
 go_loopw [16] (fun k wr => ∃q:Nat,q≤H.ca.length∧k = .int .i64 q∧Below w.heap.size w wr∧aB wr w.heap.size (bM H) 40∧aB wr (w.heap.size+1) (dO zPg) 50∧Hid (∀d∈H.ca.take q,¬(d.f=f∧d.i=i))) (fun k _=>H.ca.length-(intOf k).toNat)
 case atStart=>exact⟨0,Nat.zero_le _,rfl,hb0,bx1,rx1,Lib.hid (by simp)⟩
 case round=>
  clear hb0 bx1 rx1
  obtain⟨q,hq,rfl,hbr,bx,rx,hno⟩:=hrel
  by_cases hql:q<H.ca.length
  ·obtain⟨bc,oc,hca,hrd⟩:=uW (h.below hbr).ca.rd q hql
   obtain⟨c,hc⟩:∃c,H.ca[q]?=some c:=⟨_,List.getElem?_eq_getElem hql⟩
   rw[show H.ca[q]=c from (List.getElem?_eq_some_iff.1 hc).2] at hrd
   have hqi:(q:Int)<(H.ca.length:Int):=by omega
   have hck1:=hck c (List.mem_of_getElem? hc)
   have hc':=Lib.hid hc
   clear hc
   rw[hca]
   go_wp2_with (first | (refine ak _ _ rfl bc (oc+q*3) rfl rfl _ hrd _ Try.underlying85 rfl cached_size ?_) | (refine aD rfl _ _ _ rfl (sN c) rfl rfl rfl cached_size (nJ c) ?_))
   intro w3 hb3 cx3
   have hbr3:=ae hbr hb3
   have bx3:=bx.ext hb3
   have rx3:=rx.ext hb3
   have hcx:=cx3.cell
   have hl3:=rx3.lt
   clear hbr bx rx hb3 hrd
   unfold sN at hcx
   by_cases hy:c.f=f∧c.i=i
   ·obtain⟨hy1,hy2⟩:=hy
    obtain⟨k,hk⟩:=Int.eq_ofNat_of_zero_le hck1.1
    have hkl:k<H.m.fs.length:=by have:=hck1.2;omega
    obtain⟨bf,of,haf,hfrd⟩:=fE eu (by decide) (h.below hbr3).fr.rd k hkl
    have hki:(k:Int)<(H.m.fs.length:Int):=by omega
    have hcont:Hid (aX H.ma f i=(H.m.fs[k]).p):=Lib.hid (by
     unfold aX
     rw[show H.ma.ca.find? (fun c=>decide (c.f=f)&&decide (c.i=i))=some c from Fx hc'.out hno.out ⟨hy1,hy2⟩]
     show (H.m.fs.getD c.k.toNat fr0).p=_
     rw[hk,List.getD_eq_getElem?_getD,show ((k:Nat):Int).toNat=k from rfl,List.getElem?_eq_getElem hkl];rfl)
    generalize H.m.fs[k]=X at hfrd hcont
    obtain⟨ys,hys⟩:=GH X
    rw[hys] at hfrd
    have hprd:=JC hfrd
    have hcm:w3.cell? ⟨w.heap.size,0,none⟩=some (.slice (some ⟨bf,of,none⟩) H.m.fs.length H.cf):=by rw[bx3.cell,←haf];rfl
    rw[hy1,hy2,hk] at hcx
    clear hfrd hys
    go_wp2_with (first | (refine ak _ _ rfl bf (of+k*13) rfl rfl _ hprd _ Try.underlying50 rfl psize ?_) | (refine ax rfl _ _ _ rfl (w.heap.size+1) (dO X.p) rfl rfl _ _ rx3 rfl psize (dP X.p) ?_))
    intro w4 rx4 hg4
    have hb4:=hbr3.grown hg4 hbr3.size (fun k hk=>by cases hk;omega)
    clear hcx hcm
    go_wp2
    refine bodyPost_ret (v:=.agg (dO X.p)) (bY Try.results62 _ _ (w.heap.size+1) _ _ _ rfl rx4 Try.underlying50 rfl psize) rfl ?_
    exact⟨by rw[hcont.out],hb4⟩
   ·have hno' : Hid (∀d∈H.ca.take (q+1),¬(d.f=f∧d.i=i)):=Lib.hid fun d hd=>by
     rw[take_at hc'.out] at hd
     rcases List.mem_append.1 hd with hd|hd
     ·exact hno.out d hd
     ·rw[List.mem_singleton.1 hd];exact hy
    by_cases hy1:c.f=f
    ·have hy2:¬c.i=i:=fun e=>hy ⟨hy1,e⟩
     clear hy
     go_wp2
     go_roundw
     case rel=>exact⟨q+1,by omega,by go_num,hbr3,bx3,rx3,hno'⟩
     case measure=>simp[intOf];omega
    ·clear hy
     go_wp2
     go_roundw
     case rel=>exact⟨q+1,by omega,by go_num,hbr3,bx3,rx3,hno'⟩
     case measure=>simp[intOf];omega
  ·have hqi:¬(q:Int)<(H.ca.length:Int):=by omega
   rw[List.take_of_length_le (by omega)] at hno
   have hcx:=bx.cell
   unfold bM at hcx
   obtain⟨F,rfl⟩:=Int.eq_ofNat_of_zero_le hf.1
   obtain⟨I,rfl⟩:=Int.eq_ofNat_of_zero_le hi.1
   have hFl:F<H.fi.length:=by omega
   obtain⟨bf,of,hai,hrd⟩:=fE jY (by decide) h.st.rd F hFl
   obtain⟨p,hp⟩:∃p,H.fi[F]?=some p:=⟨_,List.getElem?_eq_getElem hFl⟩
   rw[show H.fi[F]=p from (List.getElem?_eq_some_iff.1 hp).2] at hrd
   have hrd0:=Lib.hid hrd
   have hrd:=hrd.below hbr
   have hgood:=(h.below hbr).st.good p (List.mem_of_getElem? hp)
   have hfa:fileAt H.ma.st (F:Int)=p.fi:=by
    unfold fileAt
    rw[if_pos (by omega)]
    show (H.fi.map PF.fi).getD F ⟨0,[]⟩=p.fi
    rw[List.getD_eq_getElem?_getD,List.getElem?_map,hp];rfl
   rw[hfa] at hi
   have hIl:I<p.l.length:=by have h2:=hi.2;have e:p.fi.b.length=p.l.length:=rfl;omega
   have hpz:p.l.length≤1000:=hz.2 p.fi (List.mem_map.2 ⟨p,List.mem_of_getElem? hp,rfl⟩)
   obtain⟨bb,ob,hpa,hcb⟩:=jo hgood.rd I hIl
   obtain⟨x,hX⟩:∃x,p.l[I]?=some x:=⟨_,List.getElem?_eq_getElem hIl⟩
   rw[show p.l[I]=x from (List.getElem?_eq_some_iff.1 hX).2] at hcb
   have hba:pV H.ma.st (F:Int) (I:Int)=x:=by
    unfold pV
    rw[hfa]
    show p.l.getD I 0=x
    rw[List.getD_eq_getElem?_getD,hX];rfl
   have rc:∀j u,(pG p)[j]?=some u→wr.cell? ⟨bf,of+F*2+j,none⟩=some u:=fun j u hj=>by
    obtain⟨b',o',e,hcc⟩:=hrd j u hj
    cases e
    exact hcc
   have rc0:wr.cell? ⟨bf,of+F*2,none⟩=some (.int .i64 p.n):=rc 0 _ rfl
   have rc1:wr.cell? ⟨bf,of+F*2+1,none⟩=some (.slice p.a p.l.length p.c):=rc 1 _ rfl
   have hcont:Hid (aX H.ma F I=if 0≤x then dK (iy H.dk x) (p.n-(I:Int)*8) else zPg):=Lib.hid (by
    unfold aX
    rw[show H.ma.ca.find? (fun c=>decide (c.f=(F:Int))&&decide (c.i=(I:Int)))=none from wD hno.out,hba,hfa]
    rfl)
   have hFi:(F:Int)<(H.fi.length:Int):=by omega
   have hIi:(I:Int)<(p.l.length:Int):=by omega
   rw[hpa] at rc1
   rw[hai] at hcx
   have hrd':=Lib.hid hrd
   have hai':=Lib.hid hai
   have hpa':=Lib.hid hpa
   have hfi':=Lib.hid hfa
   clear rc hrd hai hpa hfa hp hX hba hi hgood
   by_cases hx:x<0
   ·go_wp2_with (refine ax rfl _ _ _ rfl (w.heap.size+1) (dO zPg) rfl rfl _ _ rx rfl psize (dP _) ?_)
    intro w4 rx4 hg4
    have hb4:=hbr.grown hg4 hbr.size (fun k hk=>by cases hk;omega)
    clear hcx
    go_wp2
    refine bodyPost_ret (v:=.agg (dO zPg)) (bY Try.results62 _ _ (w.heap.size+1) _ _ _ rfl rx4 Try.underlying50 rfl psize) rfl ?_
    exact⟨by rw[hcont.out,if_neg (by omega)],hb4⟩
   ·go_wp2_with (refine ak _ _ rfl w.heap.size 5 rfl rfl _ (bG bx 5 2) _ Try.underlying33 rfl disk_size ?_)
    refine (xU H.dk x _ _ _ _ _ (h.below hbr).dk).mono ?_
    rintro r w4 ⟨rfl,hb4⟩
    have hfr:=aB.new w4 (dO zPg) 50
    have hba:Below w4.heap.size w4 (w4.alloc (.cells (dO zPg) 50)):=(Below.refl _ _).alloc (Nat.le_refl _) _
    have hl4:=hb4.size
    have hlr:=rx.lt
    have bx5:=(bx.ext hb4).ext hba
    have rx5:=(rx.ext hb4).ext hba
    have hbr5:=ae (ae hbr hb4) hba
    clear hcx hcb rc0 rc1 bx rx hbr
    go_wp2_with (refine ax rfl _ _ _ rfl w4.heap.size (dO (iy H.dk x)) rfl rfl _ _ hfr rfl psize (dP _) ?_)
    intro w5 px6 hg5
    have hb6:=hbr5.grown hg5 hbr5.size (fun k hk=>by cases hk;omega)
    have bx6:=bx5.grown hg5 (fun e=>by have:=Option.some.inj e;omega)
    have rx6:=rx5.grown hg5 (fun e=>by have:=Option.some.inj e;omega)
    clear hfr hba bx5 rx5 hbr5 hg5 hb4
    generalize iy H.dk x=P at px6 hcont
    generalize hp4:w4.heap.size=p4 at *
    clear hp4
    go_upto_region 12 with (fail)
    go_loopw [59] (fun j wr => ∃k:Nat,k≤8∧j = .int .i64 k∧Below w.heap.size w wr∧aB wr w.heap.size (bM H) 40∧aB wr (w.heap.size+1) (dO zPg) 50∧aB wr p4 (dO (eZ P (p.n-(I:Int)*8) k)) 50) (fun j _=>8-(intOf j).toNat)
    case atStart=>exact⟨0,by omega,rfl,hb6,bx6,rx6,by rw[show eZ P (p.n-(I:Int)*8) 0=P from by ext j hj;simp[eZ]];exact px6⟩
    case round=>
     clear hb6 bx6 rx6 px6
     obtain⟨k,hk,rfl,hbr,bx,rx,px⟩:=hrel
     by_cases hk8:k<8
     ·have hki:(k:Int)<8:=by omega
      have hcx:=bx.cell
      unfold bM at hcx
      rw[hai'.out] at hcx
      have rc0:wr.cell? ⟨bf,of+F*2,none⟩=some (.int .i64 p.n):=by
       obtain⟨b',o',e,hcc⟩:=(hrd0.out.below hbr) 0 _ rfl
       cases e
       exact hcc
      have hw1:IntKind.i64.wrap (8*(I:Int))=8*(I:Int):=IntWalk.i64_in _ (by omega)
      have hw2:IntKind.i64.wrap (8*(I:Int)+(k:Int))=8*(I:Int)+(k:Int):=IntWalk.i64_in _ (by omega)
      by_cases hge:p.n≤8*(I:Int)+k
      ·have hset:Hid ((dO (eZ P (p.n-(I:Int)*8) k)).setIfInBounds k (.int .u8 0)=dO (eZ P (p.n-(I:Int)*8) (k+1))):=Lib.hid (by
        rw[←sZ P _ k hk8 (by omega)];exact vw _ k hk8 0)
       generalize hT:eZ P (p.n-(I:Int)*8) k=T at px hset
       clear hT
       go_wp2_with (refine ay rfl _ _ _ rfl p4 k _ [.int .u8 0] rfl rfl rfl _ _ px (by show k+1≤8;omega) (by kernel_rfl) (fun u hu=>by cases List.mem_singleton.1 hu;rfl) ?_)
       intro w7 px7 hg7
       rw[iZ,hset.out] at px7
       have hbr7:=hbr.grown hg7 hbr.size (fun k hk=>by cases hk;omega)
       have bx7:=bx.grown hg7 (fun e=>by have:=Option.some.inj e;omega)
       have rx7:=rx.grown hg7 (fun e=>by have:=Option.some.inj e;omega)
       clear hbr bx rx px hg7 hcx rc0
       go_wp2
       go_roundw
       case rel=>exact⟨k+1,by omega,by go_num,hbr7,bx7,rx7,px7⟩
       case measure=>simp[intOf];omega
      ·have hset:eZ P (p.n-(I:Int)*8) k=eZ P (p.n-(I:Int)*8) (k+1):=by
        ext j hj
        simp only[eZ,Vector.getElem_ofFn]
        by_cases e:p.n-(I:Int)*8≤(j:Int)
        ·rw[if_neg (by omega),if_neg (by omega)]
        ·rw[if_neg (by omega),if_neg (by omega)]
       rw[hset] at px
       clear hset
       go_wp2
       go_roundw
       case rel=>exact⟨k+1,by omega,by go_num,hbr,bx,rx,px⟩
       case measure=>simp[intOf];omega
     ·have hki:¬(k:Int)<8:=by omega
      rw[tX _ _ k (by omega)] at px
      have hcont' : Hid (aX H.ma F I=dK P (p.n-(I:Int)*8)):=Lib.hid (by rw[hcont.out,if_pos (by omega)])
      generalize dK P (p.n-(I:Int)*8)=C at px hcont'
      go_wp2_with (first | (refine ak _ _ rfl p4 0 rfl rfl _ px.rd _ Try.underlying50 rfl psize ?_) | (refine ax rfl _ _ _ rfl (w.heap.size+1) (dO C) rfl rfl _ _ rx rfl psize (dP _) ?_))
      intro w7 rx7 hg7
      have hb7:=hbr.grown hg7 hbr.size (fun k hk=>by cases hk;omega)
      go_wp2
      refine bodyPost_ret (v:=.agg (dO C)) (bY Try.results62 _ _ (w.heap.size+1) _ _ _ rfl rx7 Try.underlying50 rfl psize) rfl ?_
      exact⟨by rw[hcont'.out],hb7⟩
theorem srt_len:∀ {l:List Nat} {a n:Nat},l.Pairwise (· < ·)→(∀x∈l,a≤x∧x<n)→l.length≤n-a
 | [],_,_,_,_=>by simp
 | x::l,a,n,hs,h=>by
  obtain⟨h1,h2⟩:=List.pairwise_cons.1 hs
  have hx:=h x List.mem_cons_self
  have:=srt_len (a:=x+1) (n:=n) h2 fun y hy=>⟨h1 y hy,(h y (List.mem_cons_of_mem _ hy)).2⟩
  rw[List.length_cons]
  omega
theorem Gp {m:Ma} (h:sD m) (hs:aP m.st=0):m.ca.length≤60:=by
 have hl:∀c∈m.ca,0≤c.f∧c.f<5∧0≤c.i∧c.i<12:=fun c hc=>by
  have h1:=h.file c hc
  have h2:=zu hs h1
  have h3:=h1.1;have h4:=h1.2
  omega
 have key:=srt_len (l:=m.ca.map fun c=>(12*c.f+c.i).toNat) (a:=0) (n:=60) ?_ fun x hx => ?_
 ·simpa using key
 ·rw[List.pairwise_map]
  refine List.Pairwise.imp_of_mem ?_ h.srt
  intro a b ha hb hab
  have h1:=hl a ha
  have h2:=hl b hb
  unfold xz at hab
  show (12*a.f+a.i).toNat<(12*b.f+b.i).toNat
  omega
 ·obtain⟨c,hc,rfl⟩:=List.mem_map.1 hx
  have h1:=hl c hc
  show 0≤(12*c.f+c.i).toNat∧(12*c.f+c.i).toNat<60
  omega
theorem oV {s:St} (hs:aP s=0):∀f∈s.fs,f.b.length≤12:=fun f hf=>by
 obtain⟨k,hk,rfl⟩:=List.mem_iff_getElem.1 hf
 have h1:=ve hs (f:=(k:Int)) ⟨by omega,by omega⟩
 have hfa:fileAt s (k:Int)=s.fs[k]:=jP (List.getElem?_eq_getElem hk)
 rw[hfa] at h1
 obtain⟨a1,a2,a3,_⟩:=h1
 have e:(s.fs[k].b.length:Int)≤12:=by
  rw[a3];unfold dh
  split<;>omega
 omega
theorem rU {P:Program} {ρ:Operand→Value} {o:Oper} {w:World} (s x:Operand) (t:TypeId) (ho:o.op=Op.call { callee:=Callee.builtin Builtin.append,args:=#[s,x],argTypes:=#[t,t] })
  (B:Nat) (e:TypeId) (z:Value) (size bytes:Nat) (h1:P.underlying t=some (.slice e)) (h2:(P.info? e).map (fun i=>(i.zero,i.size,i.bytes))=some (some z,size,bytes)) (h6:z.cells.size=size) (h7:0<size)
  (g:Nat) (hs:ρ s = .slice (some ⟨g,0,none⟩) 0 0) (hown:Own w B e size (.slice (some ⟨g,0,none⟩) 0 0) 0 [])
  (ao:Option Addr) (m c:Nat) (news:List Value) (hx:ρ x = .slice ao m c) (hnone:ao=none→c=0) (hmc:m≤c) (hn:news.length=m*size) (hrd:bZ w ao news)
  (b1:m≤maxLen) (b2:m*bytes≤140737488355328) (hB:B≤w.heap.size) :
  ∃v' w',(execOp ρ o).run P w = .ok (.value v') w'∧Below w.heap.size w w'∧Own w' B e size v' m news:=by
 obtain⟨ii,hi,hz,hsz,hby⟩:=info_parts h2
 rcases Nat.eq_zero_or_pos m with h0|h0
 ·subst h0
  obtain rfl:news=[]:=List.eq_nil_of_length_eq_zero (by simpa using hn)
  refine⟨.slice (some ⟨g,0,none⟩) 0 0,w,?_,Below.refl _ _,hown⟩
  cases ao with
  | none=>simp[execOp,ho,resolve,invoke,builtin,hs,hx,Builtin.append_,run_underlying h1,Go.sizeOf,typeInfo,hi,Builtin.lenOf,Builtin.firstCells,storeCells,Result.andThen]
  | some ad=>simp[execOp,ho,resolve,invoke,builtin,hs,hx,Builtin.append_,run_underlying h1,Go.sizeOf,typeInfo,hi,Builtin.lenOf,Builtin.firstCells,storeCells,loadCells,loadCellsFrom,Result.andThen]
 ·obtain⟨b,off,rfl,hc⟩:=hrd.at (by rw[hn];exact Nat.mul_pos h0 h7)
  obtain⟨v',w',hr,how,hgr⟩:=run_append_arg_grows (P:=P) w t o.type e ii z size bytes h1 hi hz hsz hby h6 h7 ⟨g,0,none⟩ 0 0 [] (by simp) (fun j u h=>by simp at h) ⟨b,off,none⟩ m c news hn (fun j u hj=>by rw[Addr.add_lit];exact hc j u hj) (by omega) (by omega) (by rw[Nat.zero_add];exact b2)
  have ho' : Own w' B e size v' m news:=by
   have:=(Own.of_owns how).mono hB
   simpa using this
  refine⟨v',w',?_,fF hgr,ho'⟩
  simp[execOp,ho,resolve,invoke,builtin,hs,hx,hr,Result.andThen]
theorem dF {P:Program} {ops:Array Oper} {ρ:Operand→Value} {o:Oper} {w:World} {l:List iF} {i:Nat} {J:(Nat→Bool)→(Nat→Value)→World→Prop} {L:Nat→Bool} {y:Nat→Value} {D:Value→World→Prop} (hw:Region.wanted o (says ρ ops)=true) (h:∃v' w',(execOp ρ o).run P w = .ok (.value v') w'∧D v' w')
  (hJ:∀v w',D v w'→J (bH L i) (bV y i v) w') (hR:∀v w',D v w'→rl l i v w') :
  if Region.wanted o (says ρ ops)=true then bU P o ρ w (fun v w'=>J (bH L i) (bV y i v) w'∧rl l i v w') else J (bH L i) (bV y i undef) w∧rl l i undef w:=by
 obtain⟨v,w',h1,h2⟩:=h
 exact bF v hw h1 (hJ _ _ h2) (hR _ _ h2)
theorem Aw {P:Program} {ops:Array Oper} {ρ:Operand→Value} {o:Oper} {w:World} {l:List iF} {i:Nat} {D:Value→Prop} (hw:Region.wanted o (says ρ ops)=true) (h:∃v,(execOp ρ o).run P w = .ok (.value v) w∧D v) (hR:∀v,D v→rl l i v w) :
  if Region.wanted o (says ρ ops)=true then bU P o ρ w (fun v w'=>Below w.heap.size w w'∧rl l i v w') else rl l i undef w:=by
 obtain⟨v,h1,h2⟩:=h
 exact ah v hw h1 (hR _ h2)
theorem yM {α:Type} (enc:α→List Value) (sz:Nat) (hsz:∀x,(enc x).length=sz):∀(l:List α) (k:Nat),(l.flatMap enc).take (k*sz)=(l.take k).flatMap enc
 | [],k=>by simp
 | x::l,0=>by simp
 | x::l,k+1=>by
  rw[List.flatMap_cons,List.take_succ_cons,List.flatMap_cons,Nat.succ_mul,Nat.add_comm,List.take_append,hsz,List.take_of_length_le (by rw[hsz];omega),Nat.add_sub_cancel_left,yM enc sz hsz l k]
theorem xW {α:Type} (enc:α→List Value) (sz:Nat) (hsz:∀x,(enc x).length=sz):∀(l:List α) (k:Nat),(l.flatMap enc).drop (k*sz)=(l.drop k).flatMap enc
 | [],k=>by simp
 | x::l,0=>by simp
 | x::l,k+1=>by
  rw[List.flatMap_cons,List.drop_succ_cons,Nat.succ_mul,Nat.add_comm,List.drop_append,hsz,List.drop_eq_nil_of_le (by rw[hsz];omega),List.nil_append,Nat.add_sub_cancel_left,xW enc sz hsz l k]
theorem uC (l : List Cc) (c : Cc) (q : Nat) (hq : q ≤ l.length) : ((l.flatMap kJ).take (q * 3) ++ kJ c) ++ (l.flatMap kJ).drop (q * 3) = (l.insertIdx q c).flatMap kJ := by
  rw [yM kJ 3 ku, xW kJ 3 ku]
  have : ∀ (l : List Cc) (q : Nat), q ≤ l.length → l.insertIdx q c = l.take q ++ c :: l.drop q := by
    intro l
    induction l with
    | nil => intro q hq; obtain rfl : q = 0 := by simpa using hq
             rfl
    | cons x l ih => intro q hq; cases q with
      | zero => rfl
      | succ q => rw [List.insertIdx_succ_cons, ih q (by simpa using hq)]; rfl
  rw [this l q hq]
  simp [List.flatMap_append]
theorem lM.take {w:World} {a:Option Addr} {c n k sz:Nat} {vs:List Value} (h:lM w a c n vs) (hk:k≤n):lM w a c k (vs.take (k*sz)):=
 ⟨Nat.le_trans hk h.le,h.mx,h.nl,fun j u hj=>h.rd j u (by
  rw[List.getElem?_take] at hj
  split at hj
  ·exact hj
  ·cases hj)⟩
theorem Ab {P:Program} {ρ:Operand→Value} {o:Oper} {W0 w:World} {t e:TypeId} {x i:Operand} {a:Option Addr} {n c k sz:Nat} {vs:List Value} (ho:o.op = .slice t x none (some i) none) (hx:ρ x = .slice a n c) (hy:ρ i = .int .i64 (k:Int)) (hk:k≤n)
  (hu:P.underlying t=some (.slice e)) (hs:(P.info? e).map (·.size)=some sz) (h:lM W0 a c n vs):(execOp ρ o).run P w = .ok (.value (.slice a k c)) w∧lM W0 a c k (vs.take (k*sz)):=by
 obtain⟨inf,hinf,hsz⟩:∃inf,P.info? e=some inf∧inf.size=sz:=by
  cases h:P.info? e with
  | none=>rw[h] at hs;cases hs
  | some inf=>rw[h] at hs;exact⟨inf,rfl,by simpa using hs⟩
 have hso:(Go.sizeOf e).run P w = .ok sz w:=by simp[Go.sizeOf,typeInfo,hinf,go_sem,hsz]
 have hle:=h.le
 refine⟨?_,Nat.le_trans hk h.le,h.mx,h.nl,fun j u hj=>h.rd j u (by
  rw[List.getElem?_take] at hj
  split at hj
  ·exact hj
  ·cases hj)⟩
 have hkc:(k:Int)≤(c:Int):=by omega
 cases a with
 | none=>
  have hc0:=h.nl rfl
  subst hc0
  obtain rfl:k=0:=by omega
  simp[execOp,go_sem,ho,hx,hy,hu,hso,hkc]
 | some ad=>simp[execOp,go_sem,ho,hx,hy,hu,hso,hkc]
theorem Br {P:Program} {ρ:Operand→Value} {o:Oper} {W0 w:World} {t e:TypeId} {x i:Operand} {a:Option Addr} {n c k sz:Nat} {vs:List Value} (ho:o.op = .slice t x (some i) none none) (hx:ρ x = .slice a n c) (hy:ρ i = .int .i64 (k:Int)) (hk:k≤n)
  (hu:P.underlying t=some (.slice e)) (hs:(P.info? e).map (·.size)=some sz) (hl:vs.length=n*sz) (h:lM W0 a c n vs):∃v,(execOp ρ o).run P w = .ok (.value v) w∧∃a' c',v = .slice a' (n-k) c'∧lM W0 a' c' (n-k) (vs.drop (k*sz)):=by
 obtain⟨inf,hinf,hsz⟩:∃inf,P.info? e=some inf∧inf.size=sz:=by
  cases h:P.info? e with
  | none=>rw[h] at hs;cases hs
  | some inf=>rw[h] at hs;exact⟨inf,rfl,by simpa using hs⟩
 have hso:(Go.sizeOf e).run P w = .ok sz w:=by simp[Go.sizeOf,typeInfo,hinf,go_sem,hsz]
 have hle:=h.le
 have hmx:=h.mx
 have hkn:(k:Int)≤(n:Int):=by omega
 have hnc:(n:Int)≤(c:Int):=by omega
 cases a with
 | none=>
  have hc0:=h.nl rfl
  subst hc0
  obtain rfl:n=0:=by omega
  obtain rfl:k=0:=by omega
  obtain rfl:vs=[]:=List.eq_nil_of_length_eq_zero (by simpa using hl)
  exact⟨.slice none 0 0,by simp[execOp,go_sem,ho,hx,hy,hu,hso],none,0,rfl,Nat.le_refl _,Nat.zero_le _,fun _=>rfl,by rw[List.drop_nil];exact bZ.nil⟩
 | some ad=>
  by_cases hc:k=c
  ·subst hc
   obtain rfl:k=n:=by omega
   refine⟨.slice (some ad) 0 0,by simp[execOp,go_sem,ho,hx,hy,hu,hso],some ad,0,by rw[Nat.sub_self],by omega,Nat.zero_le _,fun e=>(by cases e),?_⟩
   rw[List.drop_eq_nil_of_le (by omega)]
   exact bZ.nil
  ·refine⟨.slice (some (ad.add (k*sz))) (n-k) (c-k),?_,some (ad.add (k*sz)),c-k,rfl,by omega,by omega,fun e=>(by cases e),?_⟩
   ·have h1:k<c:=by omega
    simp[execOp,go_sem,ho,hx,hy,hu,hso,hkn,hnc,h1]
    exact fun e=>absurd e.symm hc
   ·intro i u hi
    rw[List.getElem?_drop] at hi
    obtain⟨b,off,e1,e2⟩:=h.rd _ _ hi
    cases e1
    exact⟨b,off+k*sz,by rw[Addr.add_lit],by rw[Nat.add_assoc];exact e2⟩
def qw (W0:World) (q:Nat) (l:List Cc) (c:Cc):(Nat→Bool)→(Nat→Value)→World→Prop:=fun L y W=>
 Below W0.heap.size W0 W∧(L 23=true→L 15=true)∧(L 15=true→L 9=true) ∧
 (L 1=true→L 9=false→∃g,y 1 = .slice (some ⟨g,0,none⟩) 0 0∧Own W W0.heap.size 85 3 (.slice (some ⟨g,0,none⟩) 0 0) 0 []) ∧
 (L 9=true→L 15=false→Own W W0.heap.size 85 3 (y 9) q ((l.flatMap kJ).take (q*3))) ∧
 (L 14=true→L 15=false→∃a e,y 14 = .slice a 1 e∧lM W a e 1 (kJ c)) ∧
 (L 15=true→L 23=false→Own W W0.heap.size 85 3 (y 15) (q+1) ((l.flatMap kJ).take (q*3)++kJ c)) ∧
 (L 23=true→Own W W0.heap.size 85 3 (y 23) (q+1+(l.length-q)) (((l.flatMap kJ).take (q*3)++kJ c)++(l.flatMap kJ).drop (q*3)))
theorem aV {W0:World} {q:Nat} {l:List Cc} {c:Cc}:∀L y W W',Below W.heap.size W W'→qw W0 q l c L y W→qw W0 q l c L y W':=
 fun _ _ _ _ hb ⟨h1,h2,h3,h4,h5,h6,h7,h8⟩=>⟨ae h1 hb,h2,h3,fun a b=>by
  obtain⟨g,e1,e2⟩:=h4 a b
  exact⟨g,e1,e2.below hb⟩,fun a b=>(h5 a b).below hb,fun a b=>by
  obtain⟨x,e,e1,e2⟩:=h6 a b
  exact⟨x,e,e1,e2.below hb⟩,fun a b=>(h7 a b).below hb,fun a=>(h8 a).below hb⟩
theorem IA {W0:World} {q:Nat} {l:List Cc} {c:Cc} (y:Nat→Value):qw W0 q l c (fun _=>false) y W0:=by
 refine⟨Below.refl _ _,?_,?_,?_,?_,?_,?_,?_⟩<;>· intro h;cases h
theorem Im {W0 W:World} {q:Nat} {l:List Cc} {c:Cc} {L:Nat→Bool} {y:Nat→Value} (h:qw W0 q l c L y W):qw W0 q l c (bH L 1) (bV y 1 (.slice (some ⟨W.heap.size,0,none⟩) 0 0)) (W.alloc (.cells #[] 85)):=by
 obtain⟨h1,h2,h3,h4,h5,h6,h7,h8⟩:=aV _ _ _ _ ((Below.refl _ _).alloc (Nat.le_refl _) (.cells #[] 85)) h
 exact⟨h1,h2,h3,fun _ _=>⟨_,rfl,Own.empty _ _ h.1.size⟩,h5,h6,h7,h8⟩
theorem IJ {W0 W W' : World} {q:Nat} {l:List Cc} {c:Cc} {L:Nat→Bool} {y:Nat→Value} {v:Value} (h:qw W0 q l c L y W) (hb:Below W.heap.size W W') (ho:Own W' W0.heap.size 85 3 v q ((l.flatMap kJ).take (q*3))):qw W0 q l c (bH L 9) (bV y 9 v) W':=by
 obtain⟨h1,h2,h3,h4,h5,h6,h7,h8⟩:=aV _ _ _ _ hb h
 exact⟨h1,h2,fun _=>rfl,fun _ e=>(by cases e),fun _ _=>ho,h6,h7,h8⟩
theorem DC {W0 W W' : World} {q:Nat} {l:List Cc} {c:Cc} {L:Nat→Bool} {y:Nat→Value} {a:Option Addr} {e:Nat} (h:qw W0 q l c L y W) (hb:Below W.heap.size W W') (ho:lM W' a e 1 (kJ c)):qw W0 q l c (bH L 14) (bV y 14 (.slice a 1 e)) W':=by
 obtain⟨h1,h2,h3,h4,h5,h6,h7,h8⟩:=aV _ _ _ _ hb h
 exact⟨h1,h2,h3,h4,h5,fun _ _=>⟨a,e,rfl,ho⟩,h7,h8⟩
theorem Ei {W0 W W' : World} {q:Nat} {l:List Cc} {c:Cc} {L:Nat→Bool} {y:Nat→Value} {v:Value} (h:qw W0 q l c L y W) (h15:L 15=false) (h9:L 9=true) (hg:W.grownBy W' (y 9).ownBlock) (ho:Own W' W0.heap.size 85 3 v (q+1) ((l.flatMap kJ).take (q*3)++kJ c)):qw W0 q l c (bH L 15) (bV y 15 v) W':=by
 obtain⟨h1,h2,h3,h4,h5,h6,h7,h8⟩:=h
 have h23:L 23=true→False:=fun e=>by rw[h2 e] at h15;cases h15
 exact⟨h1.grown hg h1.size (fun k hk=>(h5 h9 h15).ge k hk),fun _=>rfl,fun _=>h9,fun _ e=>(by rw[show bH L 15 9=L 9 from rfl,h9] at e;cases e),fun _ e=>(by cases e),fun _ e=>(by cases e),fun _ _=>ho,fun e=>(h23 e).elim⟩
theorem Eo {W0 W W' : World} {q:Nat} {l:List Cc} {c:Cc} {L:Nat→Bool} {y:Nat→Value} {v:Value} (h:qw W0 q l c L y W) (h23:L 23=false) (h15:L 15=true) (hg:W.grownBy W' (y 15).ownBlock) (ho:Own W' W0.heap.size 85 3 v (q+1+(l.length-q)) (((l.flatMap kJ).take (q*3)++kJ c)++(l.flatMap kJ).drop (q*3))):qw W0 q l c (bH L 23) (bV y 23 v) W':=by
 obtain⟨h1,h2,h3,h4,h5,h6,h7,h8⟩:=h
 exact⟨h1.grown hg h1.size (fun k hk=>(h7 h15 h23).ge k hk),fun _=>h15,h3,fun _ e=>(by rw[show bH L 23 9=L 9 from rfl,h3 h15] at e;cases e),fun _ e=>(by rw[show bH L 23 15=L 15 from rfl,h15] at e;cases e),fun _ e=>(by rw[show bH L 23 15=L 15 from rfl,h15] at e;cases e),fun _ e=>(by cases e),fun _=>ho⟩
end Go.Proofs.Ytkjobhcnlppcnaa