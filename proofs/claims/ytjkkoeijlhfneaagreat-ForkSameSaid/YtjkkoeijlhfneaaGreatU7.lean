import Derived.Test.YtjkkoeijlhfneaaGreatU6
set_option linter.unusedSimpArgs false
set_option linter.unusedVariables false
set_option maxHeartbeats 4000000
set_option maxRecDepth 100000
namespace Pw
open Go Go.RowKit
theorem Di {P:Program} {ops:Array Oper} {Q:Exit→Act→World→Prop} {t0:Array Value} {df:List Deferred} {w0:World} (m:Nat) (l:List RV) (J:(Nat→Bool)→(Nat→Value)→World→Prop) (hst:∀L y w w',Below w.heap.size w w'→J L y w→J L y w') (hJ0:∀y,J (fun _=>false) y w0)
  (hstep:aP (iB P ops ⟨t0,df⟩ J (rvs l)) 0 (ops.toList.take m)) {tm:(Nat→Value)→List Value} {rest:List Oper} (hf:∀y,qp y l ops.toList t0.toList=some (tm y)) (hd:wr (ops.toList.drop m)=some rest)
  (hend:∀y w,J (fun i=>decide (i<m)) y w→(∀i,i<m→rl (rvs l) i (y i) w)→wpList P ops Q rest ⟨(tm y).toArray,df⟩ w)
  (hfix:Fixed (rvs l):=by repeat (first | exact fix_nil | refine xM (fun _ _ _ h=>h) ?_))
  (hok:fE ops=true:=by kernel_rfl) (ht:eO ops m=true:=by kernel_rfl) (hmn:m≤ops.size:=by exact Nat.le_of_ble_eq_true (by kernel_rfl)) (hll:l.length=m:=by rfl) (hix:idxOk l 0=true:=by kernel_rfl)
  (hsz:fU ops t0.size=true:=by kernel_rfl):wpAny P .any ops Q ops.size (Array.replicate ops.size false) ⟨t0,df⟩ { w0 with drawn:=w0.drawn+1 }:=by
 refine tT m (rvs l) J hst hJ0 hfix hok ht hmn _ rfl hsz hstep fun y w hb hR => ?_
 have h:=hend y w hb hR
 rw[Ak hd]
 have e:=nD (m:=m) (y:=y) (w:=w) l ops.toList 0 t0 hix (by omega) (by simp;omega) fun i hi=>by rw[Nat.zero_add];exact hR i (by omega)
 show wpList P ops Q rest ⟨lay (fun i=>decide (i<m)) y ops.toList 0 t0,df⟩ w
 have e2:=Option.some.inj (e.symm.trans (hf y))
 have e3:lay (fun i=>decide (i<m)) y ops.toList 0 t0=(tm y).toArray:=by rw[←e2]
 rw[e3]
 exact h
end Pw
namespace Go.Proofs.YtjkkoeijlhfneaaGreat
open Go.RowKit Go.Maps Pw
def GZ (W0:World) (B:Nat) (ks:List (Nat × Array Value × TypeId)) (u:Value) (k:Nat) (old xs ys:List Value):(Nat→Bool)→(Nat→Value)→World→Prop:=fun L y W=>
 (Below B W0 W∧B≤W.heap.size∧∀t∈ks,aF W t.1 t.2.1 t.2.2)∧(L 8=true→L 6=true)∧(L 6=false→Own W B 5 1 u k old) ∧
 (L 5=true→L 6=false→∃a c,y 5 = .slice a 2 c∧lX W a c 2 xs) ∧
 (L 6=true→L 8=false→Own W B 5 1 (y 6) (k+2) (old++xs)) ∧
 (L 8=true→Own W B 5 1 (y 8) (k+2+8) ((old++xs)++ys))
theorem oo {W0:World} {B:Nat} {ks:List (Nat × Array Value × TypeId)} {u:Value} {k:Nat} {old xs ys:List Value}:∀L y W W',Below W.heap.size W W'→GZ W0 B ks u k old xs ys L y W→GZ W0 B ks u k old xs ys L y W':=
 fun _ _ _ _ hb ⟨h1,h2,h3,h4,h5,h6⟩=>⟨⟨h1.1.trans (hb.mono h1.2.1),Nat.le_trans h1.2.1 hb.size,fun t ht=>(h1.2.2 t ht).ext hb⟩,h2,fun e=>(h3 e).below hb,fun e1 e2=>by
  obtain⟨a,e,k1,k2⟩:=h4 e1 e2
  exact⟨a,e,k1,k2.below hb⟩,fun a b=>(h5 a b).below hb,fun a=>(h6 a).below hb⟩
theorem NJ {W0:World} {B:Nat} {ks:List (Nat × Array Value × TypeId)} {u:Value} {k:Nat} {old xs ys:List Value} (hB:B≤W0.heap.size) (hk:∀t∈ks,aF W0 t.1 t.2.1 t.2.2) (ho:Own W0 B 5 1 u k old) (y:Nat→Value):GZ W0 B ks u k old xs ys (fun _=>false) y W0:=
 ⟨⟨Below.refl _ _,hB,hk⟩,fun e=>(by cases e),fun _=>ho,fun e=>(by cases e),fun e=>(by cases e),fun e=>(by cases e)⟩
theorem tZ {W0 W:World} {B:Nat} {ks:List (Nat × Array Value × TypeId)} {u:Value} {k:Nat} {old xs ys:List Value} {L:Nat→Bool} {y:Nat→Value} {i:Nat} {v:Value} (hi:i≠5∧i≠6∧i≠8) (h:GZ W0 B ks u k old xs ys L y W):GZ W0 B ks u k old xs ys (bO L i) (cK y i v) W:=by
 obtain⟨h1,h2,h3,h4,h5,h6⟩:=h
 have e5:bO L i 5=L 5:=by unfold bO;rw[if_neg (fun e=>hi.1 e.symm)]
 have e6:bO L i 6=L 6:=by unfold bO;rw[if_neg (fun e=>hi.2.1 e.symm)]
 have e8:bO L i 8=L 8:=by unfold bO;rw[if_neg (fun e=>hi.2.2 e.symm)]
 have y5:cK y i v 5=y 5:=by unfold cK;rw[if_neg (fun e=>hi.1 e.symm)]
 have y6:cK y i v 6=y 6:=by unfold cK;rw[if_neg (fun e=>hi.2.1 e.symm)]
 have y8:cK y i v 8=y 8:=by unfold cK;rw[if_neg (fun e=>hi.2.2 e.symm)]
 exact⟨h1,by rw[e6,e8];exact h2,by rw[e6];exact h3,by rw[e5,e6,y5];exact h4,by rw[e6,e8,y6];exact h5,by rw[e8,y8];exact h6⟩
theorem ND {W0 W W' : World} {B:Nat} {ks:List (Nat × Array Value × TypeId)} {u:Value} {k:Nat} {old xs ys:List Value} {L:Nat→Bool} {y:Nat→Value} {a:Option Addr} {c:Nat} (hb:Below W.heap.size W W') (h:GZ W0 B ks u k old xs ys L y W) (hr:lX W' a c 2 xs):GZ W0 B ks u k old xs ys (bO L 5) (cK y 5 (.slice a 2 c)) W':=by
 obtain⟨h1,h2,h3,h4,h5,h6⟩:=oo _ _ _ _ hb h
 exact⟨h1,h2,h3,fun _ _=>⟨a,c,rfl,hr⟩,h5,h6⟩
theorem Jg {W W' : World} {B e n:Nat} {ks:List (Nat × Array Value × TypeId)} {v:Value} {xs:List Value} (hks:∀t∈ks,t.2.2≠e) (ho:Own W B e 1 v n xs) (hk:∀t∈ks,aF W t.1 t.2.1 t.2.2) (hg:W.grownBy W' v.ownBlock):∀t∈ks,aF W' t.1 t.2.1 t.2.2:=fun t ht=>(hk t ht).grown hg fun e'=>by
 rcases ho.2 with ⟨e1,_⟩|⟨g2,off,cap,cur,e1,_,hb,_⟩
 ·rw[e1] at e'; cases e'
 ·rw[e1] at e'; cases e'; exact uo hb (hk t ht) (hks t ht)
theorem Nq {W0 W W' : World} {B:Nat} {ks:List (Nat × Array Value × TypeId)} {u:Value} {k:Nat} {old xs ys:List Value} {L:Nat→Bool} {y:Nat→Value} {v:Value} (hks:∀t∈ks,t.2.2≠5) (hi:L 6=false) (h:GZ W0 B ks u k old xs ys L y W) (hg:W.grownBy W' u.ownBlock) (ho:Own W' B 5 1 v (k+2) (old++xs)):GZ W0 B ks u k old xs ys (bO L 6) (cK y 6 v) W':=by
 obtain⟨h1,h2,h3,h4,h5,h6⟩:=h
 have h8:L 8=false:=by
  cases e:L 8 with
  | false=>rfl
  | true=>rw[h2 e] at hi;cases hi
 have hu:=h3 hi
 exact⟨⟨h1.1.grown hg h1.2.1 hu.ge,Nat.le_trans h1.2.1 hg.size,Jg hks hu h1.2.2 hg⟩,fun _=>rfl,fun e=>(by cases e),fun _ e=>(by cases e),fun _ _=>ho,fun e=>(by rw[show bO L 6 8=L 8 from rfl,h8] at e;cases e)⟩
theorem NH {W0 W W' : World} {B:Nat} {ks:List (Nat × Array Value × TypeId)} {u:Value} {k:Nat} {old xs ys:List Value} {L:Nat→Bool} {y:Nat→Value} {v:Value} (hks:∀t∈ks,t.2.2≠5) (h6' : L 6=true) (hi:L 8=false) (h:GZ W0 B ks u k old xs ys L y W) (hg:W.grownBy W' (y 6).ownBlock) (ho:Own W' B 5 1 v (k+2+8) ((old++xs)++ys)):GZ W0 B ks u k old xs ys (bO L 8) (cK y 8 v) W':=by
 obtain⟨h1,h2,h3,h4,h5,h6⟩:=h
 have hu:=h5 h6' hi
 exact⟨⟨h1.1.grown hg h1.2.1 hu.ge,Nat.le_trans h1.2.1 hg.size,Jg hks hu h1.2.2 hg⟩,fun _=>h6',fun e=>(by rw[show bO L 8 6=L 6 from rfl,h6'] at e;cases e),fun _ e=>(by rw[show bO L 8 6=L 6 from rfl,h6'] at e;cases e),fun _ e=>(by cases e),fun _=>ho⟩
theorem FW {ρ:Operand→Value} {o:Oper} {w:World} {x:Operand} {b off:Nat} (ho:o.op = .slice 79 x none none none) (hx:ρ x = .pointer (some ⟨b,off,none⟩)) :
  (execOp ρ o).run Tryz.prog w = .ok (.value (.slice (some ⟨b,off,none⟩) 8 8)) w:=by
 simp[execOp,ho,hx,Instr.sliceAt,run_underlying Tryz.underlying79,go_sem]
theorem EK (e:Int):IntKind.u8.wrap e=e%256:=IntKind.wrap_u8 e
theorem Lr (n:Nat):kT (UInt8.ofNat n) = .int .u8 ((n:Int)%256):=by
 unfold kT
 rw[UInt8.toNat_ofNat']
 rfl
theorem KP (e:Int):kT (LU e) = .int .u8 (e%256):=by
 unfold kT LU
 have h1:0≤e%256:=Int.emod_nonneg _ (by decide)
 have h2:e%256<256:=Int.emod_lt_of_pos _ (by decide)
 rw[UInt8.toNat_ofNat',Nat.mod_eq_of_lt (by omega),Int.toNat_of_nonneg h1]
theorem NE (P:Page):(dW P).toList=P.toList.map kT:=by
 obtain⟨⟨l⟩,h⟩:=P
 match l,h with
 | [a,b,c,d,e,f,g,i],_=>rfl
theorem sM (H:MH) (p:Nat) (w:World) (h:rC w H) (hR:Rt H.ma) (hp:p<H.sp.length) :
  Calls Tryz.prog 16 #[.agg (bR H),.int .i64 p] w fun r w'=>r = .returned (.string ⟨(fT H.ma p 64).toArray⟩)∧Below w.heap.size w w':=by
 have hR':=Lib.hid hR
 clear hR
 go_enter Tryz.func16,Tryz.ntmps16
 go_upto_region 1 with (fail)
 refine fo (fun W=>Code.wp _ _ _ _ W) fun w1 hb1 bx1 hs1 => ?_
 have bx1:aF w1 w.heap.size (bR H) 41:=bx1
 clear hs1
 go_upto_region 3 with (fail)
 go_loopw [10,5] (fun i u wr => ∃(n:Nat) (k:Nat),n≤64∧k≤11*n∧i = .int .i64 n∧Below w.heap.size w wr∧aF wr w.heap.size (bR H) 41∧Own wr w.heap.size 5 1 u k ((fT H.ma p n).map kT)) (fun i _ _=>64-(intOf i).toNat)
 case atStart=>exact⟨0,0,by omega,by omega,rfl,hb1,bx1,Own.nil _ _ _ _⟩
 case round=>
  clear hb1 bx1
  obtain⟨n,k,hn,hk,rfl,hbr,bx,hown⟩:=hrel
  by_cases hn6:n<64
  ·have hni:(n:Int)<64:=by omega
   go_wp2_with (refine ay _ _ rfl w.heap.size 0 rfl rfl _ bx.rd _ Tryz.underlying41 rfl machine_size ?_)
   refine (Gv H p n _ (h.below hbr) hR'.out hp hn6).mono ?_
   rintro r w3 ⟨rfl,hb3⟩
   have hbr3:=ae hbr hb3
   have bx3:=bx.ext hb3
   have hown3:=hown.below hb3
   have hSs:Hid (fT H.ma p (n+1)=fT H.ma p n++GX H.ma p n):=Lib.hid rfl
   obtain⟨S,hS⟩:∃S,fJ H.ma p n=S:=⟨_,rfl⟩
   have hSe:Hid (GX H.ma p n=[UInt8.ofNat n,LU S.2.2]++S.1.toList++if S.2.1=true then [121] else []):=Lib.hid (by unfold GX;rw[hS])
   rw[hS]
   clear hS hown bx hb3 hbr
   obtain⟨X,own,e⟩:=S
   go_wp2_with (refine aH rfl _ _ _ rfl (dW X) rfl rfl rfl psize (eD X) ?_)
   intro w4 hb4 px4
   have hbr4:=ae hbr3 hb4
   have bx4:=bx3.ext hb4
   have hown4:=hown3.below hb4
   clear hbr3 bx3 hown3 hb4
   generalize w3.heap.size=gp at px4
   have hl:=hown4.1
   have hk0:Hid (k≤704):=Lib.hid (by omega)
   have hks:Hid (∀t∈[(w.heap.size,bR H,41),(gp,dW X,79)],t.2.2≠5):=Lib.hid fun t ht=>by
    rcases List.mem_cons.1 ht with rfl|ht
    ·show 41≠5;decide
    ·cases List.mem_singleton.1 ht;show 79≠5;decide
   go_upto_region 6 with (fail)
   refine EA 0 5 (u5) (by kernel_rfl) (by kernel_rfl) rfl fun ops0 hops0 => ?_
   simp only[freedL,sS] at hops0
   subst hops0
   refine Di 9 [_,_,_,_,_,.r 5 ((aQ fun _=>True)),.r 6 ((aQ fun _=>True)),_,.r 8 ((aQ fun _=>True))] (GZ w4 w.heap.size [(w.heap.size,bR H,41),(gp,dW X,79)] u5 k ((fT H.ma p n).map kT) ([UInt8.ofNat n,LU e].map kT) (X.toList.map kT)) oo (fun y=>NJ hbr4.size (fun t ht=>by rcases List.mem_cons.1 ht with rfl | ht;exact bx4;cases List.mem_singleton.1 ht;exact px4) hown4 y) (Qk oo rfl (Qk oo rfl (Qr oo (.int .u8 ((n:Int)%256)) (fun ρ y W hKn=>(Aq rfl (aA rfl hKn) (by simp[convert,go_sem,EK]))) rfl rfl (Qk oo rfl (Qr oo (.int .u8 (e%256)) (fun ρ y W hKn=>(Aq rfl (aA rfl hKn) (by simp[convert,go_sem,EK]))) rfl rfl (ag ?_ (ag ?_ (Qr oo (.slice (some ⟨gp,0,none⟩) 8 8) (fun ρ y W hKn=>(FW rfl (aA rfl hKn))) rfl rfl (ag ?_ (aB)) (fun _ _ _ _ hLd h=>tZ (by decide) h)))) (fun _ _ _ _ hLd h=>tZ (by decide) h)) (fun _ _ _ _ hLd h=>tZ (by decide) h)) (fun _ _ _ _ hLd h=>tZ (by decide) h)) (fun _ _ _ _ hLd h=>tZ (by decide) h)) (fun _ _ _ _ hLd h=>tZ (by decide) h)) (fun _=>rfl) rfl ?_
   ·intro ρ y W L hw hn hLi hLd hb hd;have E23:=hw 23 2 rfl;have h2:y 2=_:=hd 2 rfl;have E25:=hw 25 4 rfl;have h4:y 4=_:=hd 4 rfl
    refine bL (.slice (some ⟨W.heap.size,0,none⟩) 2 2) (ah rfl) ?_ (ND (W':=W.alloc (.cells #[.int .u8 ((n:Int)%256),.int .u8 (e%256)] 5)) ((Below.refl _ _).alloc (Nat.le_refl _) _) hb ⟨Nat.le_refl _,by unfold maxLen;omega,fun e=>(by cases e),by rw[List.map_cons,List.map_cons,List.map_nil,KP,Lr];exact cZ.new _ _ _⟩) trivial
    simp[execOp,go_sem,E23.trans h2,E25.trans h4]
   ·intro ρ y W L hw hn hLi hLd hb hd;have E21:=hw 21 0 rfl;have h0:y 0=_:=hd 0 rfl;have E26:=hw 26 5 rfl;have h5:=hd 5 rfl
    obtain⟨a,c,hx1,hx2⟩:=hb.2.2.2.1 (hLd 5 rfl) hLi
    have hv:=hb.2.2.1 hLi
    refine dM (ah rfl) (gL _ _ _ rfl w.heap.size 5 _ 1 1 Tryz.underlying24 byte_info rfl (by decide) u5 k _ (E21.trans h0) hv a 2 c _ (E26.trans hx1) hx2.nl hx2.le rfl hx2.rd (fun u hu=>by simp[kT] at hu;rcases hu with rfl | rfl<;>rfl) (by unfold maxLen;have:=hk0.out;omega) (by have:=hk0.out;omega) hb.1.2.1) (fun v W1 h=>Nq hks.out hLi hb h.2.1 h.1) (fun _ _ _=>trivial)
   ·intro ρ y W L hw hn hLi hLd hb hd;have E27:=hw 27 6 rfl;have h6:=hd 6 rfl;have E28:=hw 28 7 rfl;have h7:y 7=_:=hd 7 rfl
    have hv:=hb.2.2.2.2.1 (hLd 6 rfl) hLi
    refine dM (ah rfl) (gL _ _ _ rfl w.heap.size 5 _ 1 1 Tryz.underlying24 byte_info rfl (by decide) (y 6) (k+2) _ E27 hv (some ⟨gp,0,none⟩) 8 8 _ (E28.trans h7) (fun e=>(by cases e)) (Nat.le_refl _) (by simp) (by rw[←NE];exact (hb.1.2.2 _ (.tail _ (.head _))).rd) (fun u hu=>by obtain⟨x,_,rfl⟩:=List.mem_map.1 hu;rfl) (by unfold maxLen;have:=hk0.out;omega) (by have:=hk0.out;omega) hb.1.2.1) (fun v W1 h=>NH hks.out (hLd 6 rfl) hLi hb h.2.1 h.1) (fun _ _ _=>trivial)
   intro y W5 hbW5 hRW5
   have hy5:((aQ fun _=>True)).r (y 5) W5:=hRW5 5 (by decide)
   have hy6:((aQ fun _=>True)).r (y 6) W5:=hRW5 6 (by decide)
   have hy8:((aQ fun _=>True)).r (y 8) W5:=hRW5 8 (by decide)
   clear hRW5
   obtain⟨⟨hq1,hq2,hq3⟩,_,_,_,_,hq6⟩:=hbW5
   have ho5:=hq6 rfl
   have bx5:aF W5 w.heap.size (bR H) 41:=hq3 _ (.head _)
   have hbr5:=vV hbr4 hq1
   clear hq1 hq2 hq3 hq6 hbr4 bx4 hown4 px4 hl
   generalize y 8=v5 at ho5
   cases own with
   | false=>
    have hfin:((fT H.ma p n).map kT++([UInt8.ofNat n,LU e].map kT))++(X.toList.map kT)=(fT H.ma p (n+1)).map kT:=by
     rw[hSs.out,hSe.out];simp
    rw[hfin] at ho5
    clear hSs hSe hfin
    go_wp2
    go_roundw
    case rel=>exact⟨n+1,k+2+8,by omega,by omega,by go_num,hbr5,bx5,ho5⟩
    case measure=>simp[intOf];omega
   | true=>
    have hfin:(((fT H.ma p n).map kT++([UInt8.ofNat n,LU e].map kT))++(X.toList.map kT))++[.int .u8 121]=(fT H.ma p (n+1)).map kT:=by
     rw[hSs.out,hSe.out];simp[kT]
    have hfin:=Lib.hid hfin
    clear hSs hSe
    generalize ((fT H.ma p n).map kT++([UInt8.ofNat n,LU e].map kT))++(X.toList.map kT)=old at ho5 hfin
    go_wp2_with (first | (at_builtin;refine jm rfl _ _ 24 rfl w.heap.size 5 _ 1 1 Tryz.underlying24 byte_info rfl (by decide) v5 (k+2+8) old rfl (ho5.alloc _) (some ⟨W5.heap.size,0,none⟩) 1 1 [.int .u8 121] rfl (fun h=>(by cases h)) (Nat.le_refl _) rfl (cZ.new _ #[.int .u8 121] _) (fun u hu=>by simp at hu;subst hu;rfl) (by unfold maxLen;have:=hk0.out;omega) (by have:=hk0.out;omega) (by have:=hbr5.size;simp;omega) ?_))
    intro v w6 hown6 hg6 hso
    have hbr6:Below w.heap.size w w6:=(hbr5.alloc hbr5.size _).grown hg6 (dz hbr5.size _) (ho5.alloc (.cells #[.int .u8 121] 5)).ge
    have bx6:aF w6 w.heap.size (bR H) 41:=(bx5.alloc (.cells #[.int .u8 121] 5)).grown hg6 (fun e=>by
     rcases ho5.2 with ⟨e1,_⟩|⟨g2,off,cap,cur,e1,_,hb,_⟩
     ·rw[e1] at e;cases e
     ·rw[e1] at e;cases e;exact uo hb bx5 (by decide))
    rw[hfin.out] at hown6
    clear hfin hbr5 bx5 ho5 hg6 hso
    go_wp2
    go_roundw
    case rel=>exact⟨n+1,k+2+8+1,by omega,by omega,by go_num,hbr6,bx6,hown6⟩
    case measure=>simp[intOf];omega
  ·have hn64:n=64:=by omega
   have hni:¬(n:Int)<64:=by omega
   have hss:Hid (fT H.ma p n=fT H.ma p 64):=Lib.hid (by rw[hn64])
   clear hn hk hn6 hn64
   obtain⟨a,c,rfl,k1,k2,k3,k4⟩:=hown.rd
   have hlen:(fT H.ma p n).length=k:=by have:=hown.1;simpa using this
   have e1:=qM Tryz.underlying24 Tryz.underlying5 c k4 9 Tryz.underlying9
   rw[hlen] at e1
   clear k1 k2 k3 k4 hown hlen
   generalize fT H.ma p n=ss at e1 hss
   go_wp2
   go_ret
   exact⟨by rw[←hss.out];rfl,hbr⟩
theorem Ib {m x:Ma} {p q:Nat} (hF:Forked m x p q) {a:Nat} (ha:a≠q) (n:Int):fJ x a n=fJ m a n:=
 tK hF.st hF.dk hF.sw hF.ca (fun g=>⟨(hF.fr g).1,(hF.fr g).2.2.2.1⟩) (hF.spo a ha).2 (hF.oth a n ha)
theorem IL {m x:Ma} {p q:Nat} (hF:Forked m x p q) (n:Int):fJ x q n=fJ m p n:=
 tK hF.st hF.dk hF.sw hF.ca (fun g=>⟨(hF.fr g).1,(hF.fr g).2.2.2.1⟩) hF.spq.2 (hF.chd n)
theorem AP {m m' : Ma} {p q:Nat} (h:∀n:Int,fJ m' q n=fJ m p n):∀n,fT m' q n=fT m p n
 | 0=>rfl
 | n+1=>by
  unfold fT GX
  rw[AP h n,h]
theorem CK {m x:Ma} {p q:Nat} (hF:Forked m x p q) (f:Nat):nI x f (aV x.st f).n.toNat=nI m f (aV m.st f).n.toNat:=by
 rw[hF.st]
 unfold nI
 refine List.map_congr_left fun j _ => ?_
 rw[EW hF.st hF.dk hF.ca (fun g=>(hF.fr g).1)]
theorem Ez {w:World} {b o k:Nat} {vs:List Value} {u:Value} (h:cZ w (some ⟨b,o,none⟩) vs) (hu:vs[k]?=some u):w.cell? ⟨b,o+k,none⟩=some u:=by
 obtain⟨b',o',e,hc⟩:=h k u hu
 cases e
 exact hc
theorem Fg (w:World):Calls Tryz.prog 13 #[.agg (bR noH),.agg (bR noH)] w fun r w'=>r = .returned (.bool true)∧Below w.heap.size w w':=by
 go_enter Tryz.func13,Tryz.ntmps13
 go_upto_region 1 with (fail)
 refine mg (fun W=>Code.wp _ _ _ _ W) fun w1 hb1 ax1 bx1 hs1 => ?_
 have ax1:aF w1 w.heap.size (bR noH) 41:=ax1
 have bx1:aF w1 (w.heap.size+1) (bR noH) 41:=bx1
 clear hs1
 have hM:∀W,rC W noH:=fun W=>(Le W 0).rd
 have hM:=Lib.hid hM
 have hbr1:=hb1
 clear hb1
 have hc:∀o,w1.cell? ⟨w.heap.size,o,none⟩=#[.slice none 0 0,.int .i64 0,.slice none 0 0,.slice none 0 0,.slice none 0 0,.slice none 0 0,.slice none 0 0,.slice none 0 0,.int .i64 0,.slice none 0 0,.slice none 0 0][o]?:=ax1.cell
 have hd:∀o,w1.cell? ⟨w.heap.size+1,o,none⟩=#[.slice none 0 0,.int .i64 0,.slice none 0 0,.slice none 0 0,.slice none 0 0,.slice none 0 0,.slice none 0 0,.slice none 0 0,.int .i64 0,.slice none 0 0,.slice none 0 0][o]?:=bx1.cell
 go_wp2_with fail
 refine (Fy noH.m noH.m noH.af noH.cf noH.af noH.cf _ (hM.out _).fr (hM.out _).fr).mono ?_
 rintro r w2 ⟨rfl,hb⟩
 rw[uy.2 rfl]
 have ax2:=ax1.ext hb
 have bx2:=bx1.ext hb
 have hbr2:=ae hbr1 hb
 clear hc hd hb ax1 bx1 hbr1
 have hc:∀o,w2.cell? ⟨w.heap.size,o,none⟩=#[.slice none 0 0,.int .i64 0,.slice none 0 0,.slice none 0 0,.slice none 0 0,.slice none 0 0,.slice none 0 0,.slice none 0 0,.int .i64 0,.slice none 0 0,.slice none 0 0][o]?:=ax2.cell
 have hd:∀o,w2.cell? ⟨w.heap.size+1,o,none⟩=#[.slice none 0 0,.int .i64 0,.slice none 0 0,.slice none 0 0,.slice none 0 0,.slice none 0 0,.slice none 0 0,.slice none 0 0,.int .i64 0,.slice none 0 0,.slice none 0 0][o]?:=bx2.cell
 go_wp2_with fail
 refine (HY noH.sl noH.sl noH.asl noH.asl noH.csl noH.csl _ (hM.out _).sl.rd (hM.out _).sl.rd (by decide) (by decide)).mono ?_
 rintro r w3 ⟨rfl,hb⟩
 rw[(rfl:(noH.sl==noH.sl)=true)]
 have ax3:=ax2.ext hb
 have bx3:=bx2.ext hb
 have hbr3:=ae hbr2 hb
 clear hc hd hb ax2 bx2 hbr2
 have hc:∀o,w3.cell? ⟨w.heap.size,o,none⟩=#[.slice none 0 0,.int .i64 0,.slice none 0 0,.slice none 0 0,.slice none 0 0,.slice none 0 0,.slice none 0 0,.slice none 0 0,.int .i64 0,.slice none 0 0,.slice none 0 0][o]?:=ax3.cell
 have hd:∀o,w3.cell? ⟨w.heap.size+1,o,none⟩=#[.slice none 0 0,.int .i64 0,.slice none 0 0,.slice none 0 0,.slice none 0 0,.slice none 0 0,.slice none 0 0,.slice none 0 0,.int .i64 0,.slice none 0 0,.slice none 0 0][o]?:=bx3.cell
 go_wp2_with fail
 refine (yN noH.sw noH.sw noH.wb noH.cwb noH.wq noH.cwq noH.wb noH.cwb noH.wq noH.cwq _ (hM.out _).sw (hM.out _).sw).mono ?_
 rintro r w4 ⟨rfl,hb⟩
 rw[qd.2 rfl]
 have ax4:=ax3.ext hb
 have bx4:=bx3.ext hb
 have hbr4:=ae hbr3 hb
 clear hc hd hb ax3 bx3 hbr3
 have hc:∀o,w4.cell? ⟨w.heap.size,o,none⟩=#[.slice none 0 0,.int .i64 0,.slice none 0 0,.slice none 0 0,.slice none 0 0,.slice none 0 0,.slice none 0 0,.slice none 0 0,.int .i64 0,.slice none 0 0,.slice none 0 0][o]?:=ax4.cell
 have hd:∀o,w4.cell? ⟨w.heap.size+1,o,none⟩=#[.slice none 0 0,.int .i64 0,.slice none 0 0,.slice none 0 0,.slice none 0 0,.slice none 0 0,.slice none 0 0,.slice none 0 0,.int .i64 0,.slice none 0 0,.slice none 0 0][o]?:=bx4.cell
 go_wp2_with fail
 refine (yN noH.dk noH.dk noH.db noH.cdb noH.dq noH.cdq noH.db noH.cdb noH.dq noH.cdq _ (hM.out _).dk (hM.out _).dk).mono ?_
 rintro r w5 ⟨rfl,hb⟩
 rw[qd.2 rfl]
 have ax5:=ax4.ext hb
 have bx5:=bx4.ext hb
 have hbr5:=ae hbr4 hb
 clear hc hd hb ax4 bx4 hbr4
 have hc:∀o,w5.cell? ⟨w.heap.size,o,none⟩=#[.slice none 0 0,.int .i64 0,.slice none 0 0,.slice none 0 0,.slice none 0 0,.slice none 0 0,.slice none 0 0,.slice none 0 0,.int .i64 0,.slice none 0 0,.slice none 0 0][o]?:=ax5.cell
 have hd:∀o,w5.cell? ⟨w.heap.size+1,o,none⟩=#[.slice none 0 0,.int .i64 0,.slice none 0 0,.slice none 0 0,.slice none 0 0,.slice none 0 0,.slice none 0 0,.slice none 0 0,.int .i64 0,.slice none 0 0,.slice none 0 0][o]?:=bx5.cell
 go_wp2_with fail
 refine (FN noH.fi noH.fi noH.ct noH.ct noH.ai noH.ai noH.ci noH.ci _ (hM.out _).st (hM.out _).st).mono ?_
 rintro r w6 ⟨rfl,hb⟩
 rw[(rfl:jg (bT noH.fi noH.ct) (bT noH.fi noH.ct)=true)]
 have ax6:=ax5.ext hb
 have bx6:=bx5.ext hb
 have hbr6:=ae hbr5 hb
 clear hc hd hb ax5 bx5 hbr5
 have hbr2:=hbr6
 clear hbr6
 have hc:∀o,w6.cell? ⟨w.heap.size,o,none⟩=#[.slice none 0 0,.int .i64 0,.slice none 0 0,.slice none 0 0,.slice none 0 0,.slice none 0 0,.slice none 0 0,.slice none 0 0,.int .i64 0,.slice none 0 0,.slice none 0 0][o]?:=ax6.cell
 have hd:∀o,w6.cell? ⟨w.heap.size+1,o,none⟩=#[.slice none 0 0,.int .i64 0,.slice none 0 0,.slice none 0 0,.slice none 0 0,.slice none 0 0,.slice none 0 0,.slice none 0 0,.int .i64 0,.slice none 0 0,.slice none 0 0][o]?:=bx6.cell
 clear hM
 go_upto_region 4 with (fail)
 clear hc hd
 go_loopw [66] (fun i wr=>i = .int .i64 0∧Below w.heap.size w wr∧aF wr w.heap.size (bR noH) 41) (fun _ _=>0)
 case atStart=>exact⟨rfl,hbr2,ax6⟩
 case round=>
  clear hbr2 ax6 bx6
  obtain⟨rfl,hbr,ax⟩:=hrel
  have hc:∀o,wr.cell? ⟨w.heap.size,o,none⟩=#[.slice none 0 0,.int .i64 0,.slice none 0 0,.slice none 0 0,.slice none 0 0,.slice none 0 0,.slice none 0 0,.slice none 0 0,.int .i64 0,.slice none 0 0,.slice none 0 0][o]?:=ax.cell
  go_upto_region 10 with (fail)
  clear hc
  go_loopw [84] (fun i wr=>i = .int .i64 0∧Below w.heap.size w wr) (fun _ _=>0)
  case atStart=>exact⟨rfl,hbr⟩
  case round=>
   clear hbr ax
   obtain⟨rfl,hbr⟩:=hrel
   go_wp2
   go_ret
   exact⟨rfl,hbr⟩
theorem GN (cf cs cb:Int) (l:List UInt8) (al:Option Addr) (cl:Nat) (p:Int) (w:World) (hr:lX w al cl l.length (l.map kT)) :
  Calls Tryz.prog 3 #[.agg #[.int .i64 cf,.int .i64 cs,.int .i64 cb],.slice al l.length cl,.int .i64 p] w fun r w'=>r = .returned (.bool true)∧Below w.heap.size w w':=by
 go_enter Tryz.func3,Tryz.ntmps3
 go_upto_region 1 with (fail)
 refine fo (fun W=>Code.wp _ _ _ _ W) fun w1 hb1 cx1 hs1 => ?_
 have hr1:=hr.below hb1
 clear hr
 go_wp2_with fail
 refine (Kw w1).mono ?_
 rintro r w2 ⟨rfl,hb2⟩
 have hr2:=hr1.below hb2
 have cx2:=cx1.ext hb2
 have hbr2:=ae hb1 hb2
 clear hr1 cx1 hb1 hb2
 have hcc:=cx2.cell
 go_wp2_with fail
 refine (xK cf cs cb al cl l w2 hr2).mono ?_
 rintro r w3 ⟨H,rfl,ho,hb3,hRt,hCo,_,_,_,hsp2,_⟩
 have hbr3:=ae hbr2 hb3
 have hrd3:=ho.rd
 have hR:=Lib.hid hRt
 have hC:=Lib.hid hCo
 have hsp:=Lib.hid hsp2
 clear hr2 cx2 hcc hbr2 hb3 ho hRt hCo hsp2
 go_wp2_with (refine aH rfl _ _ _ rfl (bR H) rfl rfl rfl machine_size (fG _) ?_)
 intro w4 hb4 bx4
 have hrd4:=hrd3.below hb4
 have hbr4:=ae hbr3 hb4
 clear hrd3 hbr3 hb4
 generalize w3.heap.size=gm at bx4
 go_wp2_with (refine ay _ _ rfl gm 0 rfl rfl _ bx4.rd _ Tryz.underlying41 rfl machine_size ?_)
 refine (Bo H p _ hrd4 hR.out hC.out).mono ?_
 rintro r w5 ⟨hb5,hcase⟩
 have bx5:=bx4.ext hb5
 have hrd5:=hrd4.below hb5
 have hbr5:=ae hbr4 hb5
 clear bx4 hrd4 hbr4 hb5
 rcases hcase with ⟨hbad,rfl⟩|⟨_,_,e4,_⟩|⟨hnb,K,q,hq,rfl,ho5,hF⟩
 ·have hl:=Lib.hid (GK hbad)
  clear hbad
  go_wp2_with (refine aH rfl _ _ _ rfl (bR noH) rfl rfl rfl machine_size (fG _) ?_)
  intro w6 hb6 kx6
  have bx6:=bx5.ext hb6
  have hrd6:=hrd5.below hb6
  have hbr6:=ae hbr5 hb6
  clear bx5 hrd5 hbr5 hb6
  generalize w5.heap.size=gk at kx6
  go_wp2_with (refine ay _ _ rfl gm 0 rfl rfl _ bx6.rd _ Tryz.underlying41 rfl machine_size ?_)
  refine (wN H p _ hrd6).mono ?_
  rintro r w7 ⟨rfl,hb7⟩
  rw[hl.out]
  have hbr7:=ae hbr6 hb7
  have kx7:=kx6.ext hb7
  clear hbr6 kx6 bx6 hrd6 hb7
  go_wp2_with (refine ay _ _ rfl gk 0 rfl rfl _ kx7.rd _ Tryz.underlying41 rfl machine_size ?_)
  refine (Fg _).mono ?_
  rintro r w8 ⟨rfl,hb8⟩
  have hbr8:=ae hbr7 hb8
  go_wp2
  go_ret
  exact⟨rfl,hbr8⟩
 ·have:=hsp.out;omega
 obtain⟨P,rfl,hPl,hPv⟩:=Ll hnb
 rw[Int.toNat_natCast] at hF
 have hPq:P≠q:=by
  rintro rfl
  rw[yl hq] at hPv
  cases hPv
 have hF':=Lib.hid hF
 have hK:=Lib.hid hF.rt
 have hlK:Hid (mX K (q:Int)=true):=Lib.hid (by rw[xk];exact hF.spq.1)
 have hlH:Hid (mX H (q:Int)=false):=Lib.hid (by rw[xk];exact yl hq)
 have hsl:Hid (K.sp.length=max H.sp.length (q+1)):=Lib.hid (by have:=hF.spl;rwa [qw,qw] at this)
 have hql:q<K.sp.length:=by rw[hsl.out];omega
 have hrK:=ho5.rd
 clear hnb hF ho5 hPv hq
 go_wp2_with (refine aH rfl _ _ _ rfl (bR K) rfl rfl rfl machine_size (fG _) ?_)
 intro w6 hb6 kx6
 have bx6:=bx5.ext hb6
 have hrd6:=hrd5.below hb6
 have hrK6:=hrK.below hb6
 have hbr6:=ae hbr5 hb6
 clear bx5 hrd5 hrK hbr5 hb6
 generalize w5.heap.size=gk at kx6
 go_upto_region 7 with (fail)
 obtain⟨b1,o1,Y,haY,hY,hrY⟩:=kL hrK6.sp.rd q hql
 obtain⟨b2,o2,X,haX,hX,hrX⟩:=kL hrd6.sp.rd P hPl
 have hgY:=lh hrK6 hY
 have hgX:=lh hrd6 hX
 have hAr:Y.ar=X.ar:=by
  have h1:=hF'.out.spq.2
  rw[jr hY,jr hX] at h1
  exact h1
 have haY:=Lib.hid haY
 have haX:=Lib.hid haX
 have hqi:(q:Int)<(K.sp.length:Int):=by omega
 have hPi:(P:Int)<(H.sp.length:Int):=by omega
 refine aG 30 [_,.v (.int .i64 0),_,_,_,_,.v (.bool true),_,_,_,_,_,.v (.bool false),_,_,_,_,_,_,_,_,_,_,_,_,_,_,.v (.bool true),_,.v (.bool false)] (Gr (.agg (bR K)) (fun ρ y W hb hKn=>(aX rfl (aA rfl hKn) (kx6.ext hb) Tryz.underlying41 rfl machine_size)) rfl rfl (ag ?_ (Gb (.bool false) (by simp[go_sem]) rfl rfl rfl rfl rfl (Gk rfl (Gr (.agg (bR K)) (fun ρ y W hb hKn=>(aX rfl (aA rfl hKn) (kx6.ext hb) Tryz.underlying41 rfl machine_size)) rfl rfl (Gk rfl (ag ?_ (Gk rfl (Gk rfl (Gk rfl (Gr (.agg (bR H)) (fun ρ y W hb hKn=>(aX rfl (aA rfl hKn) (bx6.ext hb) Tryz.underlying41 rfl machine_size)) rfl rfl (Gk rfl (ag ?_ (Gk rfl (Gk rfl (Gf gk 10 rfl rfl (Gl kx6 (V:=.slice (some ⟨b1,o1,none⟩) K.sp.length K.cp) (by simp[bR,haY.out]) rfl rfl rfl rfl (Gk rfl (Gr (.pointer (some ⟨b1,o1+q*10,none⟩)) (fun ρ y W hb hKn=>(aU rfl (aA rfl hKn) (aA rfl hKn) hql Tryz.underlying39 space_size)) rfl rfl (Gf b1 (o1+q*10+1) rfl rfl (Gc (.slice Y.aa Y.ar.length Y.ac) (fun W hb=>by simp[Ez (hrY.below hb) (k:=1) (u:=.slice Y.aa Y.ar.length Y.ac) rfl]) rfl rfl rfl rfl (Gf gm 10 rfl rfl (Gl bx6 (V:=.slice (some ⟨b2,o2,none⟩) H.sp.length H.cp) (by simp[bR,haX.out]) rfl rfl rfl rfl (Gk rfl (Gr (.pointer (some ⟨b2,o2+P*10,none⟩)) (fun ρ y W hb hKn=>(aU rfl (aA rfl hKn) (aA rfl hKn) hPl Tryz.underlying39 space_size)) rfl rfl (Gf b2 (o2+P*10+1) rfl rfl (Gc (.slice X.aa X.ar.length X.ac) (fun W hb=>by simp[Ez (hrX.below hb) (k:=1) (u:=.slice X.aa X.ar.length X.ac) rfl]) rfl rfl rfl rfl (ag ?_ (Gk rfl (Gk rfl (aB))))))))))))))))))))))))))))))) (fun _=>rfl) rfl ?_
 ·intro ρ y W hw hn hb hd;have E49:=hw 49 0 rfl;have h0:y 0=_:=hd 0 rfl
  have EF:∀f,ρ (.func f) = .func (.func f) #[] #[]:=fun f=>hn (.func f) trivial
  refine aJ _ _ (ah rfl) (aK rfl (EF _) Tryz.func14 (by kernel_rfl) (by kernel_rfl) (by simp only[List.map_toArray,List.map_cons,List.map_nil,E49,h0,EF];rfl)) ?_
  refine (rz K W (hrK6.below hb) hK.out).mono ?_
  rintro r w9 ⟨rfl,hb9⟩
  exact⟨_,rfl,hb9,rfl⟩
 ·intro ρ y W hw hn hb hd;have E53:=hw 53 4 rfl;have h4:y 4=_:=hd 4 rfl;have E54:=hw 54 5 rfl;have h5:y 5=_:=hd 5 rfl
  have EF:∀f,ρ (.func f) = .func (.func f) #[] #[]:=fun f=>hn (.func f) trivial
  refine aJ _ _ (aN 3 52 false false rfl rfl ((hw 52 3 rfl).trans (hd 3 rfl))) (aK rfl (EF _) Tryz.func12 (by kernel_rfl) (by kernel_rfl) (by simp only[List.map_toArray,List.map_cons,List.map_nil,E53,h4,E54,h5,EF];rfl)) ?_
  refine (wN K q W (hrK6.below hb)).mono ?_
  rintro r w9 ⟨rfl,hb9⟩
  exact⟨_,rfl,hb9,by rw[hlK.out];rfl⟩
 ·intro ρ y W hw hn hb hd;have E59:=hw 59 10 rfl;have h10:y 10=_:=hd 10 rfl;have E60:=hw 60 11 rfl;have h11:y 11=_:=hd 11 rfl
  have EF:∀f,ρ (.func f) = .func (.func f) #[] #[]:=fun f=>hn (.func f) trivial
  refine aJ _ _ (aN 9 58 false false rfl rfl ((hw 58 9 rfl).trans (hd 9 rfl))) (aK rfl (EF _) Tryz.func12 (by kernel_rfl) (by kernel_rfl) (by simp only[List.map_toArray,List.map_cons,List.map_nil,E59,h10,E60,h11,EF];rfl)) ?_
  refine (wN H q W (hrd6.below hb)).mono ?_
  rintro r w9 ⟨rfl,hb9⟩
  exact⟨_,rfl,hb9,by rw[hlH.out];rfl⟩
 ·intro ρ y W hw hn hb hd;have E69:=hw 69 20 rfl;have h20:y 20=_:=hd 20 rfl;have E75:=hw 75 26 rfl;have h26:y 26=_:=hd 26 rfl
  have EF:∀f,ρ (.func f) = .func (.func f) #[] #[]:=fun f=>hn (.func f) trivial
  refine aJ _ _ (aN 14 63 false false rfl rfl ((hw 63 14 rfl).trans (hd 14 rfl))) (aK rfl (EF _) Tryz.func15 (by kernel_rfl) (by kernel_rfl) (by simp only[List.map_toArray,List.map_cons,List.map_nil,E69,h20,E75,h26,EF];rfl)) ?_
  refine (GL Y.ar X.ar Y.aa X.aa Y.ac X.ac W (hgY.ars.below hb) (hgX.ars.below hb)).mono ?_
  rintro r w9 ⟨rfl,hb9⟩
  exact⟨_,rfl,hb9,by rw[hAr,Cy];rfl⟩
 intro y W9 hbW9 _
 have bx8:=bx6.ext hbW9
 have kx8:=kx6.ext hbW9
 have hrd8:=hrd6.below hbW9
 have hrK8:=hrK6.below hbW9
 have hbr8:=ae hbr6 hbW9
 clear bx6 kx6 hrd6 hrK6 hbr6 hbW9 hgY hgX hrY hrX hAr hY hX haY haX
 have hc:=bx8.cell
 unfold bR at hc
 go_upto_region 10 with (fail)
 clear hc
 go_loopw [82] (fun i wr => ∃n:Nat,n≤H.sp.length∧i = .int .i64 n∧Below w.heap.size w wr∧aF wr gm (bR H) 41∧aF wr gk (bR K) 41∧rC wr H∧rC wr K) (fun i _=>H.sp.length-(intOf i).toNat)
 case atStart=>exact⟨0,by omega,rfl,hbr8,bx8,kx8,hrd8,hrK8⟩
 case round=>
  clear hbr8 bx8 kx8 hrd8 hrK8
  obtain⟨n,hn,rfl,hbr,bx,kx,hrd,hrK⟩:=hrel
  have hn2:H.sp.length≤2:=hsp.out.2
  by_cases hnl:n<H.sp.length
  ·have hni:(n:Int)<(H.sp.length:Int):=by omega
   go_upto_region 12 with (fail)
   by_cases hne:(n:Int)=(q:Int)
   ·skip
    refine aG 12 [_,_,_,_,_,_,_,_,_,_,_,.v (.bool false)] (Gk rfl (Gk rfl (Gb (.bool false) (by simp[go_sem,hne]) rfl rfl rfl rfl rfl (Gk rfl (Gk rfl (Gk rfl (Gk rfl (Gk rfl (Gk rfl (Gk rfl (Gk rfl (Gk rfl (aB))))))))))))) (fun _=>rfl) rfl ?_
    intro y W9 hbW9 _
    have bx9:=bx.ext hbW9
    have kx9:=kx.ext hbW9
    have hrd9:=hrd.below hbW9
    have hrK9:=hrK.below hbW9
    have hbr9:=ae hbr hbW9
    clear bx kx hrd hrK hbr hbW9
    go_wp2
    go_roundw
    case rel=>exact⟨n+1,by omega,by go_num,hbr9,bx9,kx9,hrd9,hrK9⟩
    case measure=>simp[intOf];omega
   ·have hs:Hid (fT K.ma n 64=fT H.ma n 64):=Lib.hid (xB (fun j=>Ib hF'.out (by omega) j) 64)
    refine aG 12 [_,_,_,_,_,_,.v (.string ⟨(fT H.ma n 64).toArray⟩),_,_,.v (.string ⟨(fT H.ma n 64).toArray⟩),_,.v (.bool false)] (Gk rfl (Gk rfl (Gb (.bool true) (by simp[go_sem,hne]) rfl rfl rfl rfl rfl (Gk rfl (Gr (.agg (bR H)) (fun ρ y W hb hKn=>(aX rfl (aA rfl hKn) (bx.ext hb) Tryz.underlying41 rfl machine_size)) rfl rfl (Gk rfl (ag ?_ (Gr (.agg (bR K)) (fun ρ y W hb hKn=>(aX rfl (aA rfl hKn) (kx.ext hb) Tryz.underlying41 rfl machine_size)) rfl rfl (Gk rfl (ag ?_ (Gb (.bool false) (by simp[go_sem]) rfl rfl rfl rfl rfl (Gk rfl (aB))))))))))))) (fun _=>rfl) rfl ?_
    ·intro ρ y W hw hn hb hd;have E89:=hw 89 4 rfl;have h4:y 4=_:=hd 4 rfl;have E90:=hw 90 5 rfl;have h5:y 5=_:=hd 5 rfl
     have EF:∀f,ρ (.func f) = .func (.func f) #[] #[]:=fun f=>hn (.func f) trivial
     refine aJ _ _ (aN 3 88 true true rfl rfl ((hw 88 3 rfl).trans (hd 3 rfl))) (aK rfl (EF _) Tryz.func16 (by kernel_rfl) (by kernel_rfl) (by simp only[List.map_toArray,List.map_cons,List.map_nil,E89,h4,E90,h5,EF];rfl)) ?_
     refine (sM H n W (hrd.below hb) hR.out hnl).mono ?_
     rintro r w9 ⟨rfl,hb9⟩
     exact⟨_,rfl,hb9,rfl⟩
    ·intro ρ y W hw hn hb hd;have E92:=hw 92 7 rfl;have h7:y 7=_:=hd 7 rfl;have E93:=hw 93 8 rfl;have h8:y 8=_:=hd 8 rfl
     have EF:∀f,ρ (.func f) = .func (.func f) #[] #[]:=fun f=>hn (.func f) trivial
     refine aJ _ _ (aN 3 88 true true rfl rfl ((hw 88 3 rfl).trans (hd 3 rfl))) (aK rfl (EF _) Tryz.func16 (by kernel_rfl) (by kernel_rfl) (by simp only[List.map_toArray,List.map_cons,List.map_nil,E92,h7,E93,h8,EF];rfl)) ?_
     refine (sM K n W (hrK.below hb) hK.out (by rw[hsl.out];omega)).mono ?_
     rintro r w9 ⟨rfl,hb9⟩
     exact⟨_,rfl,hb9,by rw[hs.out];rfl⟩
    intro y W9 hbW9 _
    have bx9:=bx.ext hbW9
    have kx9:=kx.ext hbW9
    have hrd9:=hrd.below hbW9
    have hrK9:=hrK.below hbW9
    have hbr9:=ae hbr hbW9
    clear bx kx hrd hrK hbr hbW9
    go_wp2
    go_roundw
    case rel=>exact⟨n+1,by omega,by go_num,hbr9,bx9,kx9,hrd9,hrK9⟩
    case measure=>simp[intOf];omega
  ·have hni:¬(n:Int)<(H.sp.length:Int):=by omega
   clear hn hnl
   have hs9:Hid (fT K.ma q 64=fT H.ma P 64):=Lib.hid (AP (fun j=>IL hF'.out j) 64)
   go_upto_region 15 with (fail)
   refine aG 7 [_,_,.v (.string ⟨(fT H.ma P 64).toArray⟩),_,_,.v (.string ⟨(fT H.ma P 64).toArray⟩),_] (Gr (.agg (bR K)) (fun ρ y W hb hKn=>(aX rfl (aA rfl hKn) (kx.ext hb) Tryz.underlying41 rfl machine_size)) rfl rfl (Gk rfl (ag ?_ (Gr (.agg (bR H)) (fun ρ y W hb hKn=>(aX rfl (aA rfl hKn) (bx.ext hb) Tryz.underlying41 rfl machine_size)) rfl rfl (Gk rfl (ag ?_ (Gb (.bool false) (by simp[go_sem]) rfl rfl rfl rfl rfl (aB)))))))) (fun _=>rfl) rfl ?_
   ·intro ρ y W hw hn hb hd;have E98:=hw 98 0 rfl;have h0:y 0=_:=hd 0 rfl;have E99:=hw 99 1 rfl;have h1:y 1=_:=hd 1 rfl
    have EF:∀f,ρ (.func f) = .func (.func f) #[] #[]:=fun f=>hn (.func f) trivial
    refine aJ _ _ (ah rfl) (aK rfl (EF _) Tryz.func16 (by kernel_rfl) (by kernel_rfl) (by simp only[List.map_toArray,List.map_cons,List.map_nil,E98,h0,E99,h1,EF];rfl)) ?_
    refine (sM K q W (hrK.below hb) hK.out hql).mono ?_
    rintro r w9 ⟨rfl,hb9⟩
    exact⟨_,rfl,hb9,by rw[hs9.out];rfl⟩
   ·intro ρ y W hw hn hb hd;have E101:=hw 101 3 rfl;have h3:y 3=_:=hd 3 rfl;have E102:=hw 102 4 rfl;have h4:y 4=_:=hd 4 rfl
    have EF:∀f,ρ (.func f) = .func (.func f) #[] #[]:=fun f=>hn (.func f) trivial
    refine aJ _ _ (ah rfl) (aK rfl (EF _) Tryz.func16 (by kernel_rfl) (by kernel_rfl) (by simp only[List.map_toArray,List.map_cons,List.map_nil,E101,h3,E102,h4,EF];rfl)) ?_
    refine (sM H P W (hrd.below hb) hR.out hPl).mono ?_
    rintro r w9 ⟨rfl,hb9⟩
    exact⟨_,rfl,hb9,rfl⟩
   intro y W9 hbW9 _
   have bx:=bx.ext hbW9
   have kx:=kx.ext hbW9
   have hrd:=hrd.below hbW9
   have hrK:=hrK.below hbW9
   have hbr:=ae hbr hbW9
   have hc:=bx.cell
   unfold bR at hc
   go_upto_region 18 with (fail)
   clear hc hni
   go_loopw [109] (fun i wr => ∃f:Nat,f≤H.fi.length∧i = .int .i64 f∧Below w.heap.size w wr∧aF wr gm (bR H) 41∧aF wr gk (bR K) 41∧rC wr H∧rC wr K) (fun i _=>H.fi.length-(intOf i).toNat)
   case atStart=>exact⟨0,by omega,rfl,hbr,bx,kx,hrd,hrK⟩
   case round=>
    clear hbr bx kx hrd hrK
    obtain⟨f,hf,rfl,hbr,bx,kx,hrd,hrK⟩:=hrel
    have hf5:H.fi.length≤5:=by
     have:=(kM hR.out.pt.st).1
     rwa [show H.ma.st.fs.length=H.fi.length from List.length_map _] at this
    by_cases hfl:f<H.fi.length
    ·have hfi:(f:Int)<(H.fi.length:Int):=by omega
     have hfs:f<H.ma.st.fs.length:=by rw[show H.ma.st.fs.length=H.fi.length from List.length_map _];exact hfl
     have hfK:Hid (f<K.fi.length∧f<K.ma.st.fs.length):=Lib.hid (by
      have e:=hF'.out.st
      have h2:f<K.ma.st.fs.length:=by rw[e];exact hfs
      exact⟨by rw[show K.ma.st.fs.length=K.fi.length from List.length_map _] at h2;exact h2,h2⟩)
     have hby:Hid (nI K.ma f (aV K.ma.st f).n.toNat=nI H.ma f (aV H.ma.st f).n.toNat):=Lib.hid (CK hF'.out f)
     have hszH:=Lib.hid (ED hR.out hfs)
     have hszK:=Lib.hid (ED hK.out hfK.out.2)
     clear hfs
     go_wp2_with (refine ay _ _ rfl gm 0 rfl rfl _ bx.rd _ Tryz.underlying41 rfl machine_size ?_)
     refine (vX H f _ hrd hR.out ⟨(kX hR.out).ca,(kX hR.out).st.2⟩ hR.out.ca.lt hfl hszH.out).mono ?_
     rintro r w9 ⟨v,rfl,hv,hb9⟩
     rw[Bu] at hv
     have bx9:=bx.ext hb9
     have kx9:=kx.ext hb9
     have hrd9:=hrd.below hb9
     have hrK9:=hrK.below hb9
     have hbr9:=ae hbr hb9
     clear bx kx hrd hrK hbr hb9
     obtain⟨a1,c1,rfl,k1,k2,k3,k4⟩:=hv.rd
     clear hv k1 k2 k3
     go_wp2_with (refine ay _ _ rfl gk 0 rfl rfl _ kx9.rd _ Tryz.underlying41 rfl machine_size ?_)
     refine (vX K f _ hrK9 hK.out ⟨(kX hK.out).ca,(kX hK.out).st.2⟩ hK.out.ca.lt hfK.out.1 hszK.out).mono ?_
     rintro r w10 ⟨v,rfl,hv,hb10⟩
     rw[Bu,hby.out] at hv
     have bx10:=bx9.ext hb10
     have kx10:=kx9.ext hb10
     have hrd10:=hrd9.below hb10
     have hrK10:=hrK9.below hb10
     have hbr10:=ae hbr9 hb10
     have k4':=k4.below hb10
     clear bx9 kx9 hrd9 hrK9 hbr9 hb10 k4
     obtain⟨a2,c2,rfl,k1,k2,k3,k5⟩:=hv.rd
     clear hv k1 k2 k3
     have e1:=qM Tryz.underlying24 Tryz.underlying5 c1 k4' 9 Tryz.underlying9
     have e2:=qM Tryz.underlying24 Tryz.underlying5 c2 k5 9 Tryz.underlying9
     rw[Cz] at e1 e2
     have e3:(aV K.ma.st f).n.toNat=(aV H.ma.st f).n.toNat:=by rw[hF'.out.st]
     rw[e3]
     clear k4' k5 e3
     go_wp2
     go_roundw
     case rel=>exact⟨f+1,by omega,by go_num,hbr10,bx10,kx10,hrd10,hrK10⟩
     case measure=>simp[intOf];omega
    ·have hfi:¬(f:Int)<(H.fi.length:Int):=by omega
     go_wp2
     go_ret
     exact⟨rfl,hbr⟩
open Go.ChangeShapes Go.WideShapes Go.ChangeAt
theorem opens_cfg:rf Tryz.prog 23 (fun x:Int × Int × Int=>[.int .i64 x.1,.int .i64 x.2.1,.int .i64 x.2.2]) (fun _ x=>i64 x.1∧i64 x.2.1∧i64 x.2.2):=
 (zn Tryz.underlying23 (lN rfl 1 rfl (by kernel_rfl) (uf Tryz.underlying3).w (lN rfl 2 rfl (by kernel_rfl) (uf Tryz.underlying3).w (lN rfl 3 rfl (by kernel_rfl) (uf Tryz.underlying3).w (xW (by kernel_rfl)))))).of (fun x=>(x.1,x.2.1,x.2.2.1)) (fun _=>rfl) (fun _ _ h=>⟨h.1,h.2.1,h.2.2.1⟩)
theorem Ct {W:World} {base base' : Nat} {H:Type} {en:TypeId × Value→H} {spare:Nat→Bool} {held:Bool} {fuel:Nat} {v:Value} {x:DataW H × List MemPlace} (hv:Value.okWide Tryz.prog W .any base 23 v) (h:DataW.trod en Tryz.prog W base' spare held fuel 23 v.cells.toList=some x) :
  ∃f s b:Int,v = .agg #[.int .i64 f,.int .i64 s,.int .i64 b]∧i64 f∧i64 s∧i64 b:=by
 obtain⟨cs,rfl,_⟩:=okWide_struct Tryz.underlying23 hv
 obtain⟨⟨f,s,b⟩,hcs,g1,g2,g3⟩:=opens_cfg _ _ _ _ _ _ _ _ _ h
 refine⟨f,s,b,?_,g1,g2,g3⟩
 congr 1
 apply Array.ext'
 simpa[Value.cells] using hcs
end Go.Proofs.YtjkkoeijlhfneaaGreat