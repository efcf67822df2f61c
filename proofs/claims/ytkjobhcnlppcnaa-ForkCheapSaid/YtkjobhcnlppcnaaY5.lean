import Derived.Test.YtkjobhcnlppcnaaY4
set_option linter.unusedSimpArgs false
set_option linter.unusedVariables false
set_option maxHeartbeats 4000000
set_option maxRecDepth 100000
namespace Go.Proofs.Ytkjobhcnlppcnaa
open Go.RowKit Pw
def oneC (o:Option Pg):Array Value:=#[.bool o.isSome,.bool (oR o),.bool (oW o),.bool (oH o),.int .i64 (oF o),.int .i64 (oP o)]
def oneL (o:Option Pg):List Value:=(oneC o).toList
theorem oneL_len (o:Option Pg):(oneL o).length = 6:=rfl
theorem oneL_one (o:Option Pg):∀ u ∈ oneL o,u.oneCell' = true:=by
 intro u hu
 simp only [oneL,oneC,List.mem_cons,List.not_mem_nil,or_false] at hu
 rcases hu with rfl | rfl | rfl | rfl | rfl | rfl <;> rfl
theorem oneC_one (o:Option Pg):(oneC o).all (·.oneCell') = true:=by simp [oneC,Value.oneCell']
def vsC (l:List (Option Pg)):Array Value:=(l.flatMap oneL).toArray
theorem vs_len (l:List (Option Pg)):(l.flatMap oneL).length = l.length * 6:=Pw.flat_len oneL 6 oneL_len l
theorem vsC_size (l:List (Option Pg)):(vsC l).size = l.length * 6:=by
 unfold vsC; rw [List.size_toArray,vs_len]
theorem vsC_one (l:List (Option Pg)):(vsC l).all (·.oneCell') = true:=by
 rw [← Array.all_toList,List.all_eq_true]
 intro u hu
 obtain ⟨o,_,h⟩:=List.mem_flatMap.1 (show u ∈ l.flatMap oneL by simpa [vsC] using hu)
 exact oneL_one o u h
theorem vsC_set (l:List (Option Pg)) (k:Nat) (hk:k < l.length) (x:Option Pg):putAt (vsC l) (k * 6) (oneL x) = vsC (l.set k x):=by
 apply Array.ext_getElem?
 intro i
 by_cases hi:i < l.length * 6
 ·have hq:i / 6 < l.length:=by omega
  have hir:i = i / 6 * 6 + i % 6:=by omega
  have h2:=flat_cell oneL 6 oneL_len (l.set k x) (i / 6) (by simpa using hq) (i % 6) (by omega)
  rw [← hir] at h2
  have h3:=flat_cell oneL 6 oneL_len l (i / 6) hq (i % 6) (by omega)
  rw [← hir] at h3
  have e2:(vsC (l.set k x))[i]? = ((l.set k x).flatMap oneL)[i]?:=by simp [vsC]
  have e3:(vsC l)[i]? = (l.flatMap oneL)[i]?:=by simp [vsC]
  by_cases e:i / 6 = k
  ·have hik:i = k * 6 + i % 6:=by omega
   have hlt:i % 6 < (oneL x).length:=by rw [oneL_len]; omega
   have h1:=putAt_in (oneL x) (vsC l) (k * 6) (i % 6) (oneL x)[i % 6] (by rw [oneL_len,vsC_size]; omega) (List.getElem?_eq_getElem hlt)
   rw [← hik] at h1
   rw [h1,e2,h2]
   simp only [e,List.getElem_set_self]
   exact (List.getElem?_eq_getElem hlt).symm
  ·rw [putAt_out _ _ _ _ (by rw [oneL_len]; omega),e2,h2,e3,h3]
   congr 2
   rw [List.getElem_set_ne (fun h=>e h.symm)]
 ·rw [Array.getElem?_eq_none (by rw [size_putAt,vsC_size]; omega),Array.getElem?_eq_none (by rw [vsC_size,List.length_set]; omega)]
def fC (f:Nat → Option Pg):Array Value:=vsC (pgs f)
theorem fC_size (f:Nat → Option Pg):(fC f).size = 384:=by unfold fC; rw [vsC_size,pgs_len]
theorem fC_set (f:Nat → Option Pg) (k:Nat) (hk:k < 64) (x:Option Pg):putAt (fC f) (k * 6) (oneL x) = fC (fun i=>if i = k then x else f i):=by
 unfold fC
 rw [vsC_set _ _ (by rw [pgs_len]; exact hk),pgs_set]
theorem put_last (cur:Array Value) (o:Nat) (a b c d e x y:Value):putAt (putAt cur o [a,b,c,d,e,x]) (o + 5) [y] = putAt cur o [a,b,c,d,e,y]:=by
 simp [putAt]
theorem one_size:(Try.prog.info? 106).map (·.size) = some 6:=by kernel_rfl
theorem ones_size:(Try.prog.info? 107).map (·.size) = some 384:=by kernel_rfl
theorem ones_any (l:List Ar) (a:Option Addr) (c:Nat) (w:World) (h:RdV w a (l.flatMap arL)) (hl:l.length ≤ 1000) (hok:∀ x ∈ l,areaE x = 0) :
  Calls Try.prog 44 #[.slice a l.length c] w fun r w'=>r = .returned (.agg (fC (onesF l))) ∧ Below w.heap.size w w':=by
 go_enter Try.func44,Try.ntmps44
 go_upto_region 2 with (fail)
 refine abs2 (fun W=>Code.wp _ _ _ _ W) fun W0 hb0 hres0 ho0 hs0 => ?_
 clear hs0
 replace ho0:Blk W0 (w.heap.size + 1) (fC f0) 107:=ho0
 replace hres0:Blk W0 w.heap.size (fC f0) 107:=hres0
 go_upto_region 3 with (fail)
 go_loopw [9] (fun i wr => ∃ k:Nat,k ≤ l.length ∧ i = .int .i64 k ∧ Below w.heap.size w wr ∧ Blk wr (w.heap.size + 1) (fC (onesF (l.take k))) 107 ∧ Blk wr w.heap.size (fC f0) 107) (fun i _=>l.length - (intOf i).toNat)
 case atStart=>exact ⟨0,Nat.zero_le _,rfl,hb0,ho0,hres0⟩
 case round=>
  clear hb0 ho0 hres0
  obtain ⟨k,hk,rfl,hbr,hor,hrr⟩:=hrel
  by_cases hlt:k < l.length
  ·have hnx:=Lib.hid (onesF_next hlt)
   have hA:=areaE_few (hok l[k] (List.getElem_mem _))
   obtain ⟨⟨f1,f2,f3⟩,f4,f5,f6,_,_⟩:=hA
   generalize hF:onesF (l.take k) = F at *
   obtain ⟨b,off,rfl,c0,c1,c2,c3,c4,c5,c6⟩:=ar_at7 (h.below hbr) k hlt
   generalize l[k] = A at *
   go_upto_region 5 with (fail)
   refine abs1 (fun W=>Code.wp _ _ _ _ W) fun W1 hb1 hx1 hs1 => ?_
   clear hs1 c0 c1 c2 c3 c4 c5 c6
   have hbel1:=below_next hbr hb1
   have ho1:=hor.ext hb1
   have hr1:=hrr.ext hb1
   have hgx:w.heap.size + 1 < wr.heap.size:=hor.lt
   clear hbr hor hrr hb1
   obtain ⟨gx,hg⟩:∃ g,g = wr.heap.size:=⟨_,rfl⟩
   rw [← hg] at hx1 hgx ⊢
   clear hg
   obtain ⟨N,hN⟩:∃ N:Nat,A.fr = (N:Int):=⟨A.fr.toNat,by omega⟩
   have hN':=Lib.hid hN
   clear hN
   have hcx:=hx1.cell
   go_upto_region 6 with (fail)
   clear hcx
   go_loopw [6] (fun i wr => ∃ K:Nat,A.fr ≤ (K:Int) ∧ (K:Int) ≤ A.en ∧ i = .int .i64 K ∧ Below w.heap.size w wr ∧ Blk wr gx (arC A) 69 ∧ Blk wr (w.heap.size + 1) (fC (ovr A K F)) 107 ∧ Blk wr w.heap.size (fC f0) 107) (fun i _=>(A.en - intOf i).toNat)
   case atStart=>exact ⟨N,by have:=hN'.out; omega,by have:=hN'.out; omega,by rw [hN'.out],hbel1,hx1,by rw [← hN'.out,ovr_start]; exact ho1,hr1⟩
   case round=>
    clear hbel1 hx1 ho1 hr1
    obtain ⟨K,hK0,hK1,rfl,hbr,hx,ho,hr⟩:=hrel
    have hcx:=hx.cell
    unfold arC at hcx
    by_cases hKe:(K:Int) < A.en
    ·have hK64:K < 64:=by omega
     have hK64i:(K:Int) < 64:=by omega
     have hfit:Hid (K * 6 + 6 ≤ (fC (ovr A K F)).size):=Lib.hid (by rw [fC_size]; omega)
     have hwa:IntKind.i64.wrap (A.ba + (K:Int)) = A.ba + (K:Int):=IntWalk.i64_in _ (by omega)
     have hwb:IntKind.i64.wrap (A.ba + (K:Int) - A.fr) = A.ba + (K:Int) - A.fr:=IntWalk.i64_in _ (by omega)
     have hfin:Hid (∀ q:Int,q = (if 0 ≤ A.fi then A.ba + (K:Int) - A.fr else 0) → putAt (fC (ovr A K F)) (K * 6) [.bool true,.bool A.rd,.bool A.wr,.bool A.sh,.int .i64 A.fi,.int .i64 q] = fC (ovr A ((K:Int) + 1) F)):=Lib.hid (fun q hq=>by
      rw [← ovr_next hK0,← fC_set _ K hK64,hq]; rfl)
     go_upto_region 9 with (refine wpList_st rfl _ _ _ rfl (w.heap.size + 1) (K * 6) #[.bool true,.bool A.rd,.bool A.wr,.bool A.sh,.int .i64 A.fi,.int .i64 0] rfl rfl _ _ ho hfit.out one_size (by simp [Value.oneCell']) ?_)
     intro W2 ho2 hgr2
     have hbel2:Below w.heap.size w W2:=hbr.grown hgr2 hbr.size (fun k hk=>by cases hk; omega)
     have hx2:Blk W2 gx (arC A) 69:=hx.grown hgr2 (fun e=>by have:=Option.some.inj e; omega)
     have hr2:Blk W2 w.heap.size (fC f0) 107:=hr.grown hgr2 (fun e=>by have:=Option.some.inj e; omega)
     clear hbr hx ho hr hgr2 hcx
     have hcx:=hx2.cell
     unfold arC at hcx
     by_cases hfi:0 ≤ A.fi
     ·go_upto_region 7 with (refine wpList_stv rfl _ _ _ rfl (w.heap.size + 1) (K * 6 + 5) (.int .i64 (A.ba + (K:Int) - A.fr)) [.int .i64 (A.ba + (K:Int) - A.fr)] rfl rfl rfl _ _ ho2 (by rw [size_putAt]; exact hfit.out) int_size (by simp [Value.oneCell']) ?_)
      intro W3 ho3 hgr3
      have hbel3:Below w.heap.size w W3:=hbel2.grown hgr3 hbel2.size (fun k hk=>by cases hk; omega)
      have hx3:Blk W3 gx (arC A) 69:=hx2.grown hgr3 (fun e=>by have:=Option.some.inj e; omega)
      have hr3:Blk W3 w.heap.size (fC f0) 107:=hr2.grown hgr3 (fun e=>by have:=Option.some.inj e; omega)
      have ho4:Blk W3 (w.heap.size + 1) (fC (ovr A ((K:Int) + 1) F)) 107:=by
       rw [← hfin.out _ (by rw [if_pos hfi]),← put_last]; exact ho3
      clear hbel2 hx2 ho2 hr2 ho3 hgr3 hcx hfin
      go_wp2
      go_roundw
      case rel=>exact ⟨K + 1,by omega,by omega,by go_num,hbel3,hx3,ho4,hr3⟩
      case measure=>simp [intOf]; omega
     ·have ho4:Blk W2 (w.heap.size + 1) (fC (ovr A ((K:Int) + 1) F)) 107:=by
       rw [← hfin.out 0 (by rw [if_neg hfi])]; exact ho2
      clear ho2 hfin
      go_wp2
      go_roundw
      case rel=>exact ⟨K + 1,by omega,by omega,by go_num,hbel2,hx2,ho4,hr2⟩
      case measure=>simp [intOf]; omega
    ·have hKA:(K:Int) = A.en:=by omega
     have ho4:Blk wr (w.heap.size + 1) (fC (onesF (l.take (k + 1)))) 107:=by
      rw [hnx.out,← hKA]; exact ho
     clear ho hKA
     go_wp2
     go_roundw
     case rel=>exact ⟨k + 1,by omega,by go_num,hbr,ho4,hr⟩
     case measure=>simp [intOf]; omega
  ·have hkl:k = l.length:=by omega
   subst hkl
   rw [List.take_length] at hor
   have hs384:Hid ((fC (onesF l)).size = 384):=Lib.hid (fC_size _)
   have hr384:Hid ((fC f0).size = 384):=Lib.hid (fC_size _)
   have hone:(fC (onesF l)).all (·.oneCell') = true:=vsC_one _
   go_wp2_with (first | (refine wpList_ld rfl 107 (.tmp 3) rfl (w.heap.size + 1) 0 rfl (fC (onesF l)).toList hor.rd _ Try.underlying107 rfl (by rw [Array.length_toList,hs384.out]; exact ones_size) ?_) | (refine wpList_stw rfl _ (.tmp 2) (.tmp 46) rfl w.heap.size (fC (onesF l)) rfl rfl _ _ hrr (by rw [hs384.out,hr384.out]) (by rw [hs384.out]; exact ones_size) hone ?_))
   intro w5 hr5 hgr5
   have hbel5:Below w.heap.size w w5:=hbr.grown hgr5 hbr.size (fun k hk=>by cases hk; omega)
   go_wp2
   refine bodyPost_ret (v:=.agg (fC (onesF l))) (results_c Try.results44 _ _ w.heap.size _ _ _ rfl hr5 Try.underlying107 rfl (by rw [hs384.out]; exact ones_size)) rfl ?_
   exact ⟨rfl,hbel5⟩
theorem warea_any (a:Ar) (w:World):Calls Try.prog 105 #[.agg (arC a)] w fun r w'=>r = .returned (.int .i64 (areaE a)) ∧ Below w.heap.size w w':=by
 unfold arC
 go_enter Try.func105,Try.ntmps105
 go_upto_region 1 with (fail)
 refine abs1 (fun W=>Code.wp _ _ _ _ W) fun W0 hb0 hx0 hs0 => ?_
 clear hs0
 have hcx:=hx0.cell
 by_cases g1:a.fr < 0
 ·have hz:Hid (areaE a = 3):=Lib.hid (by unfold areaE; rw [if_pos (by omega)])
  go_wp2
  go_ret
  exact ⟨ret_int hz.out.symm,hb0⟩
 ·by_cases g2:64 < a.en
  ·have hz:Hid (areaE a = 3):=Lib.hid (by unfold areaE; rw [if_pos (by omega)])
   go_wp2
   go_ret
   exact ⟨ret_int hz.out.symm,hb0⟩
  ·by_cases g3:a.en ≤ a.fr
   ·have hz:Hid (areaE a = 3):=Lib.hid (by unfold areaE; rw [if_pos (by omega)])
    go_wp2
    go_ret
    exact ⟨ret_int hz.out.symm,hb0⟩
   ·by_cases g4:a.fi < -1
    ·have hz:Hid (areaE a = 3):=Lib.hid (by unfold areaE; rw [if_pos (by omega)])
     go_wp2
     go_ret
     exact ⟨ret_int hz.out.symm,hb0⟩
    ·by_cases g5:4 < a.fi
     ·have hz:Hid (areaE a = 3):=Lib.hid (by unfold areaE; rw [if_pos (by omega)])
      go_wp2
      go_ret
      exact ⟨ret_int hz.out.symm,hb0⟩
     ·by_cases g6:a.ba < 0
      ·have hz:Hid (areaE a = 3):=Lib.hid (by unfold areaE; rw [if_pos (by omega)])
       go_wp2
       go_ret
       exact ⟨ret_int hz.out.symm,hb0⟩
      ·have hn1:¬ (a.fr < 0 ∨ a.en ≤ a.fr ∨ 64 < a.en ∨ a.fi < -1 ∨ 5 ≤ a.fi ∨ a.ba < 0):=by omega
       have hw1:IntKind.i64.wrap (a.en - a.fr) = a.en - a.fr:=IntWalk.i64_in _ (by omega)
       have hw2:IntKind.i64.wrap (12 - (a.en - a.fr)) = 12 - (a.en - a.fr):=IntWalk.i64_in _ (by omega)
       by_cases f1:a.fi = -1
       ·have f1' : (a.fi == -1) = true:=by simpa using f1
        by_cases f2:a.ba = 0
        ·have f2' : ¬ 0 < a.ba:=by omega
         cases f3:a.sh
         ·have hz:Hid (areaE a = 0):=Lib.hid (by unfold areaE; rw [if_neg hn1,if_neg (by rw [f3]; simp; omega)])
          have f4:¬ 0 ≤ a.fi:=by omega
          clear hn1 f1 f2
          rw [f3] at hcx
          go_wp2
          go_ret
          exact ⟨ret_int hz.out.symm,hb0⟩
         ·have hz:Hid (areaE a = 7):=Lib.hid (by unfold areaE; rw [if_neg hn1,if_pos (.inl ⟨by omega,.inr f3⟩)])
          clear hn1 f1 f2
          rw [f3] at hcx
          go_wp2
          go_ret
          exact ⟨ret_int hz.out.symm,hb0⟩
        ·have hz:Hid (areaE a = 7):=Lib.hid (by unfold areaE; rw [if_neg hn1,if_pos (.inl ⟨by omega,.inl f2⟩)])
         have f2' : 0 < a.ba:=by omega
         clear hn1 f1 f2
         go_wp2
         go_ret
         exact ⟨ret_int hz.out.symm,hb0⟩
       ·have f1' : 0 ≤ a.fi:=by omega
        have f1'' : (a.fi == -1) = false:=by simpa using f1
        by_cases f2:12 - (a.en - a.fr) < a.ba
        ·have hz:Hid (areaE a = 7):=Lib.hid (by unfold areaE; rw [if_neg hn1,if_pos (.inr ⟨f1',f2⟩)])
         clear hn1 f1
         go_wp2
         go_ret
         exact ⟨ret_int hz.out.symm,hb0⟩
        ·have hz:Hid (areaE a = 0):=Lib.hid (by unfold areaE; rw [if_neg hn1,if_neg (by omega)])
         clear hn1 f1
         go_wp2
         go_ret
         exact ⟨ret_int hz.out.symm,hb0⟩
theorem eqOne (p q:Pg) (b:Bool) (h:(p == q) = b) (W:World):(Op.equalIn 10000 106 (.agg #[.bool true,.bool p.rd,.bool p.wr,.bool p.sh,.int .i64 p.fi,.int .i64 p.pg]) (.agg #[.bool true,.bool q.rd,.bool q.wr,.bool q.sh,.int .i64 q.fi,.int .i64 q.pg])).run Try.prog W = .ok b W:=by
 rw [← h,pg_beq]
 by_cases h3:p.rd = q.rd
 ·by_cases h4:p.wr = q.wr
  ·by_cases h5:p.sh = q.sh
   ·by_cases h6:(p.fi == q.fi) = true
    ·by_cases h7:p.pg = q.pg <;> simp [go_sem,h3,h4,h5,h6,h7]
    ·simp [go_sem,h3,h4,h5,h6]
   ·simp [go_sem,h3,h4,h5]
  ·simp [go_sem,h3,h4]
 ·simp [go_sem,h3]
theorem eqOne0 (q:Pg) (x:Int) (W:World):(Op.equalIn 10000 106 (.agg #[.bool false,.bool false,.bool false,.bool false,.int .i64 0,.int .i64 x]) (.agg #[.bool true,.bool q.rd,.bool q.wr,.bool q.sh,.int .i64 q.fi,.int .i64 q.pg])).run Try.prog W = .ok false W:=by
 simp [go_sem]
theorem fC_part (f:Nat → Option Pg) (k:Nat) (hk:k < 64):(fC f).extract (k * 6) (k * 6 + 6) = oneC (f k):=by
 apply Array.ext_getElem?
 intro i
 by_cases hi:i < 6
 ·rw [Array.getElem?_extract,if_pos (by rw [fC_size]; omega)]
  have:=flat_cell oneL 6 oneL_len (pgs f) k (by rw [pgs_len]; exact hk) i hi
  have e:(fC f)[k * 6 + i]? = ((pgs f).flatMap oneL)[k * 6 + i]?:=by simp [fC,vsC]
  have e2:(pgs f)[k]'(by rw [pgs_len]; exact hk) = f k:=by simp [pgs]
  rw [e,this,e2]
  simp [oneL]
 ·rw [Array.getElem?_eq_none (by simp; omega),Array.getElem?_eq_none (by simp [oneC]; omega)]
theorem fC_cell (f:Nat → Option Pg) (k j:Nat) (hk:k < 64) (u:Value) (h:(oneL (f k))[j]? = some u) (hj:j < 6):(fC f)[k * 6 + j]? = some u:=by
 have:=flat_cell oneL 6 oneL_len (pgs f) k (by rw [pgs_len]; exact hk) j hj
 have e:(fC f)[k * 6 + j]? = ((pgs f).flatMap oneL)[k * 6 + j]?:=by simp [fC,vsC]
 have e2:(pgs f)[k]'(by rw [pgs_len]; exact hk) = f k:=by simp [pgs]
 rw [e,this,e2]
 exact h
theorem idx_one (f:Nat → Option Pg) (k:Nat) (hk:k < 64) (o:Option Pg) (ho:f k = o) (w:World):(Instr.index 107 (.agg (fC f)) (.int .i64 k)).run Try.prog w = .ok (.agg (oneC o)) w:=
 run_index_agg' Try.underlying107 Try.underlying106 rfl one_size _ k _ hk (by rw [← ho]; exact fC_part f k hk) _ w
theorem wpList_eqS {P:Program} {ops:Array Oper} {rest:List Oper} {o:Oper} {a:Act} {w:World} {Q:Exit → Act → World → Prop} (hg:o.guard = none) (t t' : TypeId) (x y:Operand) (ho:o.op = .binOp .eql t x y t') (vx vy:Value) (hx:a.eval x = vx) (hy:a.eval y = vy) (B:Bool)
  (hr:(do eqGuard .eql t x y vx vy; binOp .eql t vx vy:Sem Value).run P w = .ok (.bool B) w) (h:wpList P ops Q rest (a.put o.dst (.bool B)) w):wpList P ops Q (o :: rest) a w:=
 wpList_plain hg fun K hK=>by
  unfold Oper.wp
  rw [run_bin ho hx hy hr]
  exact hK _ _ h
theorem eqOneR (p q:Pg) (b:Bool) (h:(p == q) = b) (x y:Operand) (W:World):(do eqGuard .eql 106 x y (.agg #[.bool true,.bool p.rd,.bool p.wr,.bool p.sh,.int .i64 p.fi,.int .i64 p.pg]) (.agg #[.bool true,.bool q.rd,.bool q.wr,.bool q.sh,.int .i64 q.fi,.int .i64 q.pg]); binOp .eql 106 (.agg #[.bool true,.bool p.rd,.bool p.wr,.bool p.sh,.int .i64 p.fi,.int .i64 p.pg]) (.agg #[.bool true,.bool q.rd,.bool q.wr,.bool q.sh,.int .i64 q.fi,.int .i64 q.pg]):Sem Value).run Try.prog W = .ok (.bool b) W:=by
 have hE:=eqOne p q b h
 simp [go_sem,hE]
theorem eqOneR0 (q:Pg) (z:Int) (x y:Operand) (W:World):(do eqGuard .eql 106 x y (.agg #[.bool false,.bool false,.bool false,.bool false,.int .i64 0,.int .i64 z]) (.agg #[.bool true,.bool q.rd,.bool q.wr,.bool q.sh,.int .i64 q.fi,.int .i64 q.pg]); binOp .eql 106 (.agg #[.bool false,.bool false,.bool false,.bool false,.int .i64 0,.int .i64 z]) (.agg #[.bool true,.bool q.rd,.bool q.wr,.bool q.sh,.int .i64 q.fi,.int .i64 q.pg]):Sem Value).run Try.prog W = .ok (.bool false) W:=by
 have hE:=eqOne0 q z
 simp [go_sem,hE]
theorem areas_any (f:Nat → Option Pg) (w:World) (hf:∀ i p,f i = some p → 0 ≤ p.pg ∧ p.pg ≤ 100) :
  Calls Try.prog 118 #[.agg (fC f)] w fun r w' => ∃ v,r = .returned v ∧ Own w' w.heap.size 69 7 v (toA f 64).length ((toA f 64).flatMap arL) ∧ Below w.heap.size w w':=by
 have hs384:=Lib.hid (fC_size f)
 go_enter Try.func118,Try.ntmps118
 go_upto_region 1 with (fail)
 refine abs1 (fun W=>Code.wp _ _ _ _ W) fun W0 hb0 hx0 hs0 => ?_
 clear hs0
 go_upto_region 3 with (refine wpList_ldg _ _ rfl _ 0 rfl rfl _ hx0.rd _ Try.underlying107 rfl (by rw [Array.length_toList,hs384.out]; exact ones_size) ?_)
 go_loopw [9,3] (fun i u wr => ∃ k:Nat,k ≤ 64 ∧ i = .int .i64 k ∧ Below w.heap.size w wr ∧ Blk wr w.heap.size (fC f) 107 ∧ Own wr w.heap.size 69 7 u (toA f k).length ((toA f k).flatMap arL)) (fun i _ _=>64 - (intOf i).toNat)
 case atStart=>exact ⟨0,Nat.zero_le _,rfl,hb0,hx0,by simpa [toA] using Own.nil _ _ _ _⟩
 case round=>
  clear hb0 hx0
  obtain ⟨k,hk,rfl,hbel,hbx,hown⟩:=hrel
  by_cases hlt:k < 64
  ·have hlti:(k:Int) < 64:=by omega
   have htl:=toA_len f k
   cases hfk:f k with
   | none=>
    have hix:=idx_one f k hlt none hfk
    unfold oneC oR oW oH oF oP at hix
    have hst:=Lib.hid (toA_none hfk)
    go_upto_region 5 with (fail)
    refine abs1 (fun W=>Code.wp _ _ _ _ W) fun W1 hb1 hx1 hs1 => ?_
    have hcx:=hx1.cell
    have hbel1:=below_next hbel hb1
    have hbx1:=hbx.ext hb1
    have hown1:=hown.below hb1
    clear hs1 hb1 hbel hbx hown
    rw [← hst.out] at hown1
    go_wp2
    go_roundw
    case rel=>exact ⟨k + 1,by omega,by go_num,hbel1,hbx1,hown1⟩
    case measure=>simp [intOf]; omega
   | some p=>
    have hix:=idx_one f k hlt (some p) hfk
    unfold oneC oR oW oH oF oP at hix
    go_upto_region 5 with (fail)
    refine abs1 (fun W=>Code.wp _ _ _ _ W) fun W1 hb1 hx1 hs1 => ?_
    have hbel:=below_next hbel hb1
    have hbx:=hbx.ext hb1
    have hown:=hown.below hb1
    clear hs1 hb1
    obtain ⟨gx,hgx⟩:∃ g,g = wr.heap.size:=⟨_,rfl⟩
    rw [← hgx] at hx1 ⊢
    clear hgx
    generalize hacc:toA f k = acc at *
    obtain ⟨au,cu,rfl,_⟩:=hown.rd
    have hcx:=hx1.cell
    have hwk:IntKind.i64.wrap ((k:Int) + 1) = (k:Int) + 1:=IntWalk.i64_in _ (by omega)
    by_cases hk0:k = 0
    ·have hs0:stepOn f k p = false:=by rw [hk0]; rfl
     have hst:Hid (toA f (k + 1) = acc ++ [oneAr k p]):=Lib.hid (by rw [toA_new hfk hs0,hacc])
     have hk0i:¬ (0:Int) < (k:Int):=by omega
     have hk0n:¬ 0 < k:=by omega
     clear hk0 hs0 hfk hacc
     go_upto_region 14 with (fail)
     go_wp2_with (at_builtin; refine wpList_app rfl _ _ 60 rfl w.heap.size 69 _ 7 40 Try.underlying60 area_info rfl (by decide) _ acc.length (acc.flatMap arL) rfl (hown.alloc _) (some ⟨W1.heap.size,0,none⟩) 1 1 (arL (oneAr k p)) rfl (fun h=>(by cases h)) (Nat.le_refl _) rfl (RdV.new _ (arC (oneAr k p)) _) (fun u hu=>areas_one [oneAr k p] u (by simpa using hu)) (by unfold maxLen; omega) (by omega) (le_alloc' hbel.size _) ?_)
     intro v W6 hown6 hgr6
     have hbel6:Below w.heap.size w W6:=(hbel.alloc hbel.size _).grown hgr6 (le_alloc' hbel.size _) (hown.alloc (.cells (arC (oneAr k p)) 69)).ge
     have hbx6:Blk W6 w.heap.size (fC f) 107:=blk_own (hbx.alloc (.cells (arC (oneAr k p)) 69)) (hown.alloc (.cells (arC (oneAr k p)) 69)) (by decide) hgr6
     have hown7:Own W6 w.heap.size 69 7 v (toA f (k + 1)).length ((toA f (k + 1)).flatMap arL):=by
      rw [hst.out,List.flatMap_append,List.length_append]; simpa using hown6
     clear hown6 hgr6
     go_wp2
     go_roundw
     case rel=>exact ⟨k + 1,by omega,by go_num,hbel6,hbx6,hown7⟩
     case measure=>simp [intOf]; omega
    ·obtain ⟨m,hm⟩:∃ m,k = m + 1:=⟨k - 1,by omega⟩
     have hk0i:(0:Int) < (k:Int):=by omega
     have hk0n:0 < k:=by omega
     have hwm:IntKind.i64.wrap ((k:Int) - 1) = (m:Int):=by rw [IntWalk.i64_in _ (by omega)]; omega
     have hm64:m < 64:=by omega
     have hm64i:(m:Int) < 64:=by omega
     have hm1:∀ z,stepOn f k z = (match f m with | some q=>nextPg z q == z | none=>false):=fun z=>by subst hm; rfl
     have hcell:∀ j u,(oneL (f m))[j]? = some u → j < 6 → W1.cell? ⟨w.heap.size,m * 6 + j,none⟩ = some u:=fun j u h hj=>by rw [hbx.cell]; exact fC_cell f m j hm64 u h hj
     have hmm:=Lib.hid hm
     clear hm hk0
     cases hfm:f m with
     | none=>
      have hs0:stepOn f k p = false:=by rw [hm1,hfm]
      have hst:Hid (toA f (k + 1) = acc ++ [oneAr k p]):=Lib.hid (by rw [toA_new hfk hs0,hacc])
      rw [hfm] at hcell
      have d0:=hcell 0 _ rfl (by decide)
      have d1:=hcell 1 _ rfl (by decide)
      have d2:=hcell 2 _ rfl (by decide)
      have d3:=hcell 3 _ rfl (by decide)
      have d4:=hcell 4 _ rfl (by decide)
      have d5:=hcell 5 _ rfl (by decide)
      simp only [Nat.add_zero,Option.isSome,oR,oW,oH,oF,oP] at d0 d1 d2 d3 d4 d5
      clear hm1 hcell hs0 hfk hacc
      have hw1p:IntKind.i64.wrap (0 + 1) = 1:=by rw [IntWalk.i64_in _ (by omega)]; try rfl
      go_upto_region 9 with (fail)
      refine abs1 (fun W=>Code.wp _ _ _ _ W) fun W2 hb2 hy2 hs2 => ?_
      have hbel:=below_next hbel hb2
      have hbx2:=hbx.ext hb2
      have hown2:=hown.below hb2
      have hx2:=hx1.ext hb2
      have hgxy:gx < W1.heap.size:=hx1.lt
      have hgy:w.heap.size < W1.heap.size:=hbx.lt
      have hgB:=hbel.size
      clear hs2 hb2 hbx hown hx1 hcx d0 d1 d2 d3 d4 d5
      have hcx:=hx2.cell
      by_cases hfi:0 ≤ p.fi
      ·obtain ⟨gy,hgyE⟩:∃ g,g = W1.heap.size:=⟨_,rfl⟩
       rw [← hgyE] at hy2 hgxy hgy ⊢
       clear hgyE
       have hcy:=hy2.cell
       go_upto_region 11 with (refine wpList_stv rfl _ _ _ rfl gy 5 (.int .i64 (1)) [.int .i64 (1)] rfl rfl rfl _ _ hy2 (by simp) int_size (by simp [Value.oneCell']) ?_)
       intro W3 hy3 hgr3
       have hy4:Blk W3 gy #[.bool false,.bool (false),.bool (false),.bool (false),.int .i64 (0),.int .i64 (1)] 106:=hy3
       have hbel:=hbel.grown hgr3 hbel.size (fun k hk=>by cases hk; omega)
       have hbx3:Blk W3 w.heap.size (fC f) 107:=hbx2.grown hgr3 (fun e=>by have:=Option.some.inj e; omega)
       have hx3:Blk W3 gx #[.bool true,.bool p.rd,.bool p.wr,.bool p.sh,.int .i64 p.fi,.int .i64 p.pg] 106:=hx2.grown hgr3 (fun e=>by have:=Option.some.inj e; omega)
       have hown:=own_keep hown2 hy2 (by decide) hgr3
       have hbx:=hbx3
       clear hy2 hy3 hbx2 hx2 hown2 hgr3 hcx hcy hbx3 hgB
       have hE:=eqOneR0 p 1
       go_upto_region 12 with (first | (refine wpList_ldg _ _ rfl _ 0 rfl rfl _ hy4.rd _ Try.underlying106 rfl one_size ?_) | (refine wpList_ldg _ _ rfl _ 0 rfl rfl _ hx3.rd _ Try.underlying106 rfl one_size ?_) | (refine wpList_eqS rfl _ _ _ _ rfl _ _ rfl rfl _ (hE _ _ _) ?_))
       clear hE hy4
       have hcx:=hx3.cell
       go_upto_region 14 with (fail)
       go_wp2_with (at_builtin; refine wpList_app rfl _ _ 60 rfl w.heap.size 69 _ 7 40 Try.underlying60 area_info rfl (by decide) _ acc.length (acc.flatMap arL) rfl (hown.alloc _) (some ⟨W3.heap.size,0,none⟩) 1 1 (arL (oneAr k p)) rfl (fun h=>(by cases h)) (Nat.le_refl _) rfl (RdV.new _ (arC (oneAr k p)) _) (fun u hu=>areas_one [oneAr k p] u (by simpa using hu)) (by unfold maxLen; omega) (by omega) (le_alloc' hbel.size _) ?_)
       intro v W6 hown6 hgr6
       have hbel6:Below w.heap.size w W6:=(hbel.alloc hbel.size _).grown hgr6 (le_alloc' hbel.size _) (hown.alloc (.cells (arC (oneAr k p)) 69)).ge
       have hbx6:Blk W6 w.heap.size (fC f) 107:=blk_own (hbx.alloc (.cells (arC (oneAr k p)) 69)) (hown.alloc (.cells (arC (oneAr k p)) 69)) (by decide) hgr6
       have hown7:Own W6 w.heap.size 69 7 v (toA f (k + 1)).length ((toA f (k + 1)).flatMap arL):=by
        rw [hst.out,List.flatMap_append,List.length_append]; simpa using hown6
       clear hown6 hgr6
       go_wp2
       go_roundw
       case rel=>exact ⟨k + 1,by omega,by go_num,hbel6,hbx6,hown7⟩
       case measure=>simp [intOf]; omega
      ·have hbx:=hbx2
       have hown:=hown2
       clear hbx2 hown2
       have hfi' : ¬ 0 ≤ p.fi:=hfi
       have hE:=eqOneR0 p 0
       go_upto_region 12 with (first | (refine wpList_ldg _ _ rfl _ 0 rfl rfl _ hy2.rd _ Try.underlying106 rfl one_size ?_) | (refine wpList_ldg _ _ rfl _ 0 rfl rfl _ hx2.rd _ Try.underlying106 rfl one_size ?_) | (refine wpList_eqS rfl _ _ _ _ rfl _ _ rfl rfl _ (hE _ _ _) ?_))
       clear hE hy2
       have hcx:=hx2.cell
       go_upto_region 14 with (fail)
       go_wp2_with (at_builtin; refine wpList_app rfl _ _ 60 rfl w.heap.size 69 _ 7 40 Try.underlying60 area_info rfl (by decide) _ acc.length (acc.flatMap arL) rfl (hown.alloc _) (some ⟨W2.heap.size,0,none⟩) 1 1 (arL (oneAr k p)) rfl (fun h=>(by cases h)) (Nat.le_refl _) rfl (RdV.new _ (arC (oneAr k p)) _) (fun u hu=>areas_one [oneAr k p] u (by simpa using hu)) (by unfold maxLen; omega) (by omega) (le_alloc' hbel.size _) ?_)
       intro v W6 hown6 hgr6
       have hbel6:Below w.heap.size w W6:=(hbel.alloc hbel.size _).grown hgr6 (le_alloc' hbel.size _) (hown.alloc (.cells (arC (oneAr k p)) 69)).ge
       have hbx6:Blk W6 w.heap.size (fC f) 107:=blk_own (hbx.alloc (.cells (arC (oneAr k p)) 69)) (hown.alloc (.cells (arC (oneAr k p)) 69)) (by decide) hgr6
       have hown7:Own W6 w.heap.size 69 7 v (toA f (k + 1)).length ((toA f (k + 1)).flatMap arL):=by
        rw [hst.out,List.flatMap_append,List.length_append]; simpa using hown6
       clear hown6 hgr6
       go_wp2
       go_roundw
       case rel=>exact ⟨k + 1,by omega,by go_num,hbel6,hbx6,hown7⟩
       case measure=>simp [intOf]; omega
     | some q=>
      have hqb:=hf m q hfm
      have hstp0:=hm1 p
      rw [hfm] at hstp0 hcell
      simp only [] at hstp0
      have d0:=hcell 0 _ rfl (by decide)
      have d1:=hcell 1 _ rfl (by decide)
      have d2:=hcell 2 _ rfl (by decide)
      have d3:=hcell 3 _ rfl (by decide)
      have d4:=hcell 4 _ rfl (by decide)
      have d5:=hcell 5 _ rfl (by decide)
      simp only [Nat.add_zero,Option.isSome,oR,oW,oH,oF,oP] at d0 d1 d2 d3 d4 d5
      generalize hBe:(nextPg p q == p) = B at hstp0
      have hstp:=Lib.hid hstp0
      clear hm1 hcell hstp0
      have hN1:0 ≤ p.fi → ((⟨q.rd,q.wr,q.sh,q.fi,q.pg + 1⟩:Pg) == p) = B:=fun h=>by rw [← hBe]; unfold nextPg; rw [if_pos h]
      have hN0:¬ 0 ≤ p.fi → (q == p) = B:=fun h=>by rw [← hBe]; unfold nextPg; rw [if_neg h]
      clear hBe
      have hw1p:IntKind.i64.wrap (q.pg + 1) = (q.pg + 1):=by rw [IntWalk.i64_in _ (by omega)]; try rfl
      go_upto_region 9 with (fail)
      refine abs1 (fun W=>Code.wp _ _ _ _ W) fun W2 hb2 hy2 hs2 => ?_
      have hbel:=below_next hbel hb2
      have hbx2:=hbx.ext hb2
      have hown2:=hown.below hb2
      have hx2:=hx1.ext hb2
      have hgxy:gx < W1.heap.size:=hx1.lt
      have hgy:w.heap.size < W1.heap.size:=hbx.lt
      have hgB:=hbel.size
      clear hs2 hb2 hbx hown hx1 hcx d0 d1 d2 d3 d4 d5
      have hcx:=hx2.cell
      by_cases hfi:0 ≤ p.fi
      ·obtain ⟨gy,hgyE⟩:∃ g,g = W1.heap.size:=⟨_,rfl⟩
       rw [← hgyE] at hy2 hgxy hgy ⊢
       clear hgyE
       have hcy:=hy2.cell
       go_upto_region 11 with (refine wpList_stv rfl _ _ _ rfl gy 5 (.int .i64 ((q.pg + 1))) [.int .i64 ((q.pg + 1))] rfl rfl rfl _ _ hy2 (by simp) int_size (by simp [Value.oneCell']) ?_)
       intro W3 hy3 hgr3
       have hy4:Blk W3 gy #[.bool true,.bool (q.rd),.bool (q.wr),.bool (q.sh),.int .i64 (q.fi),.int .i64 ((q.pg + 1))] 106:=hy3
       have hbel:=hbel.grown hgr3 hbel.size (fun k hk=>by cases hk; omega)
       have hbx3:Blk W3 w.heap.size (fC f) 107:=hbx2.grown hgr3 (fun e=>by have:=Option.some.inj e; omega)
       have hx3:Blk W3 gx #[.bool true,.bool p.rd,.bool p.wr,.bool p.sh,.int .i64 p.fi,.int .i64 p.pg] 106:=hx2.grown hgr3 (fun e=>by have:=Option.some.inj e; omega)
       have hown:=own_keep hown2 hy2 (by decide) hgr3
       have hbx:=hbx3
       clear hy2 hy3 hbx2 hx2 hown2 hgr3 hcx hcy hbx3 hgB
       have hE:=eqOneR ⟨q.rd,q.wr,q.sh,q.fi,q.pg + 1⟩ p B (hN1 hfi)
       go_upto_region 12 with (first | (refine wpList_ldg _ _ rfl _ 0 rfl rfl _ hy4.rd _ Try.underlying106 rfl one_size ?_) | (refine wpList_ldg _ _ rfl _ 0 rfl rfl _ hx3.rd _ Try.underlying106 rfl one_size ?_) | (refine wpList_eqS rfl _ _ _ _ rfl _ _ rfl rfl _ (hE _ _ _) ?_))
       clear hE hy4
       have hcx:=hx3.cell
       by_cases hB:B = true
       ·subst hB
        have hst:=Lib.hid (toA_on hfk hstp.out)
        rw [hacc] at hst
        have hne:0 < acc.length:=by
         have:=toA_ne f hfm
         rw [← hmm.out,hacc] at this
         exact this
        obtain ⟨n,hn0⟩:∃ n,acc.length = n + 1:=⟨acc.length - 1,by omega⟩
        have hna:n < acc.length:=by omega
        have hse:Hid (setEn acc ((k:Int) + 1) = acc.set n { acc[n] with en:=(k:Int) + 1 }):=Lib.hid (setEn_at hn0 _)
        have hni:(n:Int) < (acc.length:Int):=by omega
        have hwn:IntKind.i64.wrap ((acc.length:Int) - 1) = (n:Int):=by rw [IntWalk.i64_in _ (by omega)]; omega
        obtain ⟨g,off1,cap1,hv1,hBg,hgl,⟨csg,hgb⟩,hcc,hfz,hset⟩:=own_cell arL_len (by decide) rfl hown n hna 1 (by decide) (.int .i64 ((k:Int) + 1)) { acc[n] with en:=(k:Int) + 1 } rfl
        cases hv1
        have hc1:=hcc 1 _ rfl
        have hbxg:w.heap.size ≠ g:=by
         intro e; subst e
         unfold Blk at hbx hgb
         rw [hbx] at hgb
         simp at hgb
        clear hcc hn0 hfk hacc hfm
        go_upto_region 15 with (fail)
        have hbel6:Below w.heap.size w (W3.setCell ⟨g,off1 + n * 7 + 1,none⟩ (.int .i64 ((k:Int) + 1))):=hbel.setCell hBg _
        have hbx6:Blk (W3.setCell ⟨g,off1 + n * 7 + 1,none⟩ (.int .i64 ((k:Int) + 1))) w.heap.size (fC f) 107:=hbx.setCell_other _ _ (by simpa using hbxg)
        have hown7:Own (W3.setCell ⟨g,off1 + n * 7 + 1,none⟩ (.int .i64 ((k:Int) + 1))) w.heap.size 69 7 (.slice (some ⟨g,off1,none⟩) acc.length cu) (toA f (k + 1)).length ((toA f (k + 1)).flatMap arL):=by
         rw [hst.out,hse.out,List.length_set]; exact hset
        clear hset hown hbel hbx hfz hc1 hgb hcx
        go_wp2
        go_roundw
        case rel=>exact ⟨k + 1,by omega,by go_num,hbel6,hbx6,hown7⟩
        case measure=>simp [intOf]; omega
       ·have hBf:B = false:=by simpa using hB
        subst hBf
        have hst:Hid (toA f (k + 1) = acc ++ [oneAr k p]):=Lib.hid (by rw [toA_new hfk hstp.out,hacc])
        clear hfk hacc hfm hB
        go_upto_region 14 with (fail)
        go_wp2_with (at_builtin; refine wpList_app rfl _ _ 60 rfl w.heap.size 69 _ 7 40 Try.underlying60 area_info rfl (by decide) _ acc.length (acc.flatMap arL) rfl (hown.alloc _) (some ⟨W3.heap.size,0,none⟩) 1 1 (arL (oneAr k p)) rfl (fun h=>(by cases h)) (Nat.le_refl _) rfl (RdV.new _ (arC (oneAr k p)) _) (fun u hu=>areas_one [oneAr k p] u (by simpa using hu)) (by unfold maxLen; omega) (by omega) (le_alloc' hbel.size _) ?_)
        intro v W6 hown6 hgr6
        have hbel6:Below w.heap.size w W6:=(hbel.alloc hbel.size _).grown hgr6 (le_alloc' hbel.size _) (hown.alloc (.cells (arC (oneAr k p)) 69)).ge
        have hbx6:Blk W6 w.heap.size (fC f) 107:=blk_own (hbx.alloc (.cells (arC (oneAr k p)) 69)) (hown.alloc (.cells (arC (oneAr k p)) 69)) (by decide) hgr6
        have hown7:Own W6 w.heap.size 69 7 v (toA f (k + 1)).length ((toA f (k + 1)).flatMap arL):=by
         rw [hst.out,List.flatMap_append,List.length_append]; simpa using hown6
        clear hown6 hgr6
        go_wp2
        go_roundw
        case rel=>exact ⟨k + 1,by omega,by go_num,hbel6,hbx6,hown7⟩
        case measure=>simp [intOf]; omega
      ·have hbx:=hbx2
       have hown:=hown2
       clear hbx2 hown2
       have hfi' : ¬ 0 ≤ p.fi:=hfi
       have hE:=eqOneR q p B (hN0 hfi')
       go_upto_region 12 with (first | (refine wpList_ldg _ _ rfl _ 0 rfl rfl _ hy2.rd _ Try.underlying106 rfl one_size ?_) | (refine wpList_ldg _ _ rfl _ 0 rfl rfl _ hx2.rd _ Try.underlying106 rfl one_size ?_) | (refine wpList_eqS rfl _ _ _ _ rfl _ _ rfl rfl _ (hE _ _ _) ?_))
       clear hE hy2
       have hcx:=hx2.cell
       by_cases hB:B = true
       ·subst hB
        have hst:=Lib.hid (toA_on hfk hstp.out)
        rw [hacc] at hst
        have hne:0 < acc.length:=by
         have:=toA_ne f hfm
         rw [← hmm.out,hacc] at this
         exact this
        obtain ⟨n,hn0⟩:∃ n,acc.length = n + 1:=⟨acc.length - 1,by omega⟩
        have hna:n < acc.length:=by omega
        have hse:Hid (setEn acc ((k:Int) + 1) = acc.set n { acc[n] with en:=(k:Int) + 1 }):=Lib.hid (setEn_at hn0 _)
        have hni:(n:Int) < (acc.length:Int):=by omega
        have hwn:IntKind.i64.wrap ((acc.length:Int) - 1) = (n:Int):=by rw [IntWalk.i64_in _ (by omega)]; omega
        obtain ⟨g,off1,cap1,hv1,hBg,hgl,⟨csg,hgb⟩,hcc,hfz,hset⟩:=own_cell arL_len (by decide) rfl hown n hna 1 (by decide) (.int .i64 ((k:Int) + 1)) { acc[n] with en:=(k:Int) + 1 } rfl
        cases hv1
        have hc1:=hcc 1 _ rfl
        have hbxg:w.heap.size ≠ g:=by
         intro e; subst e
         unfold Blk at hbx hgb
         rw [hbx] at hgb
         simp at hgb
        clear hcc hn0 hfk hacc hfm
        go_upto_region 15 with (fail)
        have hbel6:Below w.heap.size w (W2.setCell ⟨g,off1 + n * 7 + 1,none⟩ (.int .i64 ((k:Int) + 1))):=hbel.setCell hBg _
        have hbx6:Blk (W2.setCell ⟨g,off1 + n * 7 + 1,none⟩ (.int .i64 ((k:Int) + 1))) w.heap.size (fC f) 107:=hbx.setCell_other _ _ (by simpa using hbxg)
        have hown7:Own (W2.setCell ⟨g,off1 + n * 7 + 1,none⟩ (.int .i64 ((k:Int) + 1))) w.heap.size 69 7 (.slice (some ⟨g,off1,none⟩) acc.length cu) (toA f (k + 1)).length ((toA f (k + 1)).flatMap arL):=by
         rw [hst.out,hse.out,List.length_set]; exact hset
        clear hset hown hbel hbx hfz hc1 hgb hcx
        go_wp2
        go_roundw
        case rel=>exact ⟨k + 1,by omega,by go_num,hbel6,hbx6,hown7⟩
        case measure=>simp [intOf]; omega
       ·have hBf:B = false:=by simpa using hB
        subst hBf
        have hst:Hid (toA f (k + 1) = acc ++ [oneAr k p]):=Lib.hid (by rw [toA_new hfk hstp.out,hacc])
        clear hfk hacc hfm hB
        go_upto_region 14 with (fail)
        go_wp2_with (at_builtin; refine wpList_app rfl _ _ 60 rfl w.heap.size 69 _ 7 40 Try.underlying60 area_info rfl (by decide) _ acc.length (acc.flatMap arL) rfl (hown.alloc _) (some ⟨W2.heap.size,0,none⟩) 1 1 (arL (oneAr k p)) rfl (fun h=>(by cases h)) (Nat.le_refl _) rfl (RdV.new _ (arC (oneAr k p)) _) (fun u hu=>areas_one [oneAr k p] u (by simpa using hu)) (by unfold maxLen; omega) (by omega) (le_alloc' hbel.size _) ?_)
        intro v W6 hown6 hgr6
        have hbel6:Below w.heap.size w W6:=(hbel.alloc hbel.size _).grown hgr6 (le_alloc' hbel.size _) (hown.alloc (.cells (arC (oneAr k p)) 69)).ge
        have hbx6:Blk W6 w.heap.size (fC f) 107:=blk_own (hbx.alloc (.cells (arC (oneAr k p)) 69)) (hown.alloc (.cells (arC (oneAr k p)) 69)) (by decide) hgr6
        have hown7:Own W6 w.heap.size 69 7 v (toA f (k + 1)).length ((toA f (k + 1)).flatMap arL):=by
         rw [hst.out,List.flatMap_append,List.length_append]; simpa using hown6
        clear hown6 hgr6
        go_wp2
        go_roundw
        case rel=>exact ⟨k + 1,by omega,by go_num,hbel6,hbx6,hown7⟩
        case measure=>simp [intOf]; omega
  ·have hk64:k = 64:=by omega
   subst hk64
   go_wp2
   go_ret
   exact ⟨_,rfl,hown,hbel⟩
theorem pair_len {a b:Ar} (ha:areaE a = 0) (hb:areaE b = 0) (h:a.en ≤ b.fr):(toA (onesF [a,b]) 64).length = if joinsB a b = true then 1 else 2:=by
 have hs:srtF 0 [a,b]:=⟨ha,(areaE_few ha).1.2.1.1,hb,h,trivial⟩
 have e:toA (onesF [a,b]) 64 = tidyL [a,b]:=toA_eq (tidy_ok hs) fun i _=>by rw [onesF_on hs,tidy_on hs]
 rw [e,tidyL_cons]
 unfold tidyGo
 split <;> rfl
theorem few_any (f:Nat → Option Pg) (m:List Ar) (hm:okF none m) (hf:∀ i:Nat,i < 64 → f i = onA m i) (hf' : ∀ i p,f i = some p → 0 ≤ p.pg ∧ p.pg ≤ 100) (w:World) :
  Calls Try.prog 106 #[.agg (fC f)] w fun r w' => ∃ v,r = .returned (.tuple #[v,.int .i64 (doneE m.length)]) ∧ Own w' w.heap.size 69 7 v (if 16 < m.length then [] else m).length ((if 16 < m.length then [] else m).flatMap arL) ∧ Below w.heap.size w w':=by
 have hs384:=Lib.hid (fC_size f)
 have hl64:=toA_len f 64
 rw [toA_eq hm hf] at hl64
 go_enter Try.func106,Try.ntmps106
 go_upto_region 1 with (fail)
 refine abs1 (fun W=>Code.wp _ _ _ _ W) fun W0 hb0 hx0 hs0 => ?_
 clear hs0
 go_wp2_with (refine wpList_ldg _ _ rfl _ 0 rfl rfl _ hx0.rd _ Try.underlying107 rfl (by rw [Array.length_toList,hs384.out]; exact ones_size) ?_)
 refine (areas_any f _ hf').mono ?_
 rintro r w1 ⟨v1,rfl,hO1,hb1⟩
 rw [toA_eq hm hf] at hO1
 have hbel:=below_next hb0 hb1
 replace hO1:=hO1.mono hb0.size
 obtain ⟨a1,c1,rfl,_⟩:=hO1.rd
 clear hb0 hx0 hb1
 by_cases h:16 < m.length
 ·have hi:(16:Int) < (m.length:Int):=by omega
  have hd:Hid (doneE m.length = 4):=Lib.hid (by unfold doneE; rw [if_pos h])
  go_wp2
  go_ret2
  exact ⟨.slice none 0 0,by first | (rw [hd.out]; done) | (rw [hd.out]; rfl),by first | exact Own.nil _ _ _ _ | (rw [if_pos h]; exact Own.nil _ _ _ _),hbel⟩
 ·have hi:¬ (16:Int) < (m.length:Int):=by omega
  have hd:Hid (doneE m.length = 0):=Lib.hid (by unfold doneE; rw [if_neg h])
  go_wp2
  go_ret2
  exact ⟨.slice a1 m.length c1,by first | (rw [hd.out]; done) | (rw [hd.out]; rfl),by first | exact hO1 | (rw [if_neg h]; exact hO1),hbel⟩
theorem run_slice_two {P:Program} {ρ:Operand → Value} {o:Oper} {w:World} {t:TypeId} {x l h:Operand} {b off n c O sz:Nat} (ho:o.op = .slice t x (some l) (some h) none) (hx:ρ x = .slice (some ⟨b,off,none⟩) n c) (hl:ρ l = .int .i64 O) (hh:ρ h = .int .i64 ((O:Int) + 2))
  (ht:P.underlying t = some (.slice (P.elem t))) (hs:(P.info? (P.elem t)).map (·.size) = some sz) (hO:O + 1 < n) (hn:n ≤ c) :
  (execOp ρ o).run P w = .ok (.value (.slice (some ⟨b,off + O * sz,none⟩) 2 (c - O))) w:=by
 have hsz:(Go.sizeOf (P.elem t)).run P w = .ok sz w:=by
  cases hq:P.info? (P.elem t) with
  | none=>simp [hq] at hs
  | some i=>
   have hz:i.size = sz:=by simpa [hq] using hs
   simp [Go.sizeOf,typeInfo,run_program,hq,hz]
 unfold execOp
 simp only [ho,hx,hl,hh,Option.map]
 rw [Sem.run_bind,run_sliceAt_slice w t _ _ _ _ ht,run_slice_lh w t _ n c ht .i64 .i64 O (O + 2) (by omega) (by omega) (by omega),hsz]
 have e1:((O:Int) + 2).toNat - (O:Int).toNat = 2:=by omega
 have e2:((O:Int) + 2).toNat - O = 2:=by omega
 simp [sliced,e1,e2,Addr.add,show ¬ c = O by omega,go_sem]
theorem two_at {w:World} {b off:Nat} {l:List Ar} (h:RdV w (some ⟨b,off,none⟩) (l.flatMap arL)) {m:Nat} (hm:m + 1 < l.length):RdV w (some ⟨b,off + m * 7,none⟩) ([l[m],l[m + 1]].flatMap arL):=by
 have h1:=ar_at' h m (by omega)
 have h2:=ar_at' h (m + 1) hm
 intro j u hj
 refine ⟨b,off + m * 7,rfl,?_⟩
 simp only [List.flatMap_cons,List.flatMap_nil,List.append_nil] at hj
 by_cases c:j < 7
 ·rw [List.getElem?_append_left (by rw [arL_len]; exact c)] at hj
  exact h1 j u hj
 ·rw [List.getElem?_append_right (by rw [arL_len]; omega),arL_len] at hj
  have:=h2 _ u hj
  rwa [show off + (m + 1) * 7 + (j - 7) = off + m * 7 + j by omega] at this
theorem rwrong_any (l:List Ar) (a:Option Addr) (c:Nat) (w:World) (h:AsR w a c l) :
  Calls Try.prog 89 #[.slice a l.length c] w fun e w'=>e = .returned (.agg (fauC (wrongA l))) ∧ Below w.heap.size w w':=by
 have hlc:=h.le
 have hlm:=Nat.le_trans h.le h.mx
 unfold maxLen at hlm
 have hrd:=h.rd
 go_enter Try.func89,Try.ntmps89
 go_upto_region 1 with (fail)
 refine abs1 (fun W=>Code.wp _ _ _ _ W) fun W0 hbel hres hs0 => ?_
 clear hs0
 by_cases h16:16 < l.length
 ·have h16' : (16:Int) < (l.length:Int):=by omega
  have hz:Hid (wrongA l = (4,0)):=Lib.hid (by unfold wrongA; rw [if_pos h16])
  go_wp2_with (refine wpList_stw rfl _ _ _ rfl w.heap.size #[.int .i64 (4),.int .i64 (0)] rfl rfl _ _ hres rfl fau_size (fau_one _ _) ?_)
  intro w5 hr5 hgr5
  have hbel5:Below w.heap.size w w5:=hbel.grown hgr5 hbel.size (fun k hk=>by cases hk; exact Nat.le_refl _)
  go_wp2
  refine bodyPost_ret (v:=.agg #[.int .i64 (4),.int .i64 (0)]) (results_c Try.results89 _ _ w.heap.size _ _ _ rfl hr5 Try.underlying155 rfl fau_size) rfl ?_
  exact ⟨by rw [hz.out]; rfl,hbel5⟩
 ·have h16' : ¬ (16:Int) < (l.length:Int):=by omega
  have h0:Hid (wrongA l = wrongAt (prevA l 0) 0 (l.drop 0)):=Lib.hid (by unfold wrongA; rw [if_neg h16]; rfl)
  go_upto_region 4 with (fail)
  go_loopw [12] (fun i wr => ∃ k:Nat,k ≤ l.length ∧ i = .int .i64 k ∧ Below w.heap.size w wr ∧ Blk wr w.heap.size #[.int .i64 0,.int .i64 0] 155 ∧ (∀ i (h:i < l.length),i < k → areaE l[i] = 0) ∧ Hid (wrongA l = wrongAt (prevA l k) k (l.drop k))) (fun i _=>l.length - (intOf i).toNat)
  case atStart=>exact ⟨0,Nat.zero_le _,rfl,hbel,hres,fun i _ h=>absurd h (Nat.not_lt_zero _),h0⟩
  case round=>
   clear hbel hres h0
   obtain ⟨k,hk,rfl,hbel,hres,hp0,hst⟩:=hrel
   have hp:=Lib.hid hp0
   clear hp0
   by_cases hlt:k < l.length
   ·obtain ⟨b,off,rfl,c0,c1,c2,c3,c4,c5,c6⟩:=ar_at7 (hrd.below hbel) k hlt
    have hki:(k:Int) < (l.length:Int):=by omega
    go_upto_region 6 with (fail)
    refine abs1 (fun W=>Code.wp _ _ _ _ W) fun W1 hb1 hx1 hs1 => ?_
    have hbel:=below_next hbel hb1
    have hres:=hres.ext hb1
    clear hs1 hb1 c0 c1 c2 c3 c4 c5 c6
    obtain ⟨gx,hgx⟩:∃ g,g = wr.heap.size:=⟨_,rfl⟩
    rw [← hgx] at hx1 ⊢
    clear hgx
    go_wp2_with (refine wpList_ldg _ _ rfl _ 0 rfl rfl _ hx1.rd _ Try.underlying69 rfl area_size ?_)
    refine (warea_any l[k] _).mono ?_
    rintro r w2 ⟨rfl,hb2⟩
    have hbel2:=below_next hbel hb2
    have hres2:=hres.ext hb2
    have hx2:=hx1.ext hb2
    clear hbel hres hb2 hx1
    by_cases he:areaE l[k] = 0
    ·have he':=Lib.hid he
     rw [he]
     clear he
     go_upto_region 9 with (fail)
     by_cases hk0:k = 0
     ·subst hk0
      have hd0:decide ((0:Int) < ((0:Nat):Int)) = false:=rfl
      have hnx:Hid (wrongA l = wrongAt (prevA l (0 + 1)) (0 + 1) (l.drop (0 + 1))):=Lib.hid (by rw [hst.out]; exact wrong_next hlt he'.out rfl)
      go_quiet (fail)
      go_wp2
      go_roundw
      case rel=>exact ⟨0 + 1,by omega,by go_num,below_drewN hbel2 _,hres2.drewN _,upto' hp.out hlt he'.out,hnx⟩
      case measure=>simp [intOf]; omega
     ·obtain ⟨m,rfl⟩:∃ m,k = m + 1:=⟨k - 1,by omega⟩
      have hm1:IntKind.i64.wrap (((m + 1:Nat):Int) - 1) = (m:Int):=by rw [IntWalk.i64_in _ (by omega)]; omega
      have hml:m < l.length:=by omega
      have hm2:IntKind.i64.wrap (m:Int) = (m:Int):=IntWalk.i64_in _ (by omega)
      have hm3:IntKind.i64.wrap ((m:Int) + 1 + 1) = (m:Int) + 2:=by rw [IntWalk.i64_in _ (by omega)]; omega
      have hm4:IntKind.i64.wrap (((m + 1:Nat):Int) + 1) = (m:Int) + 2:=by rw [IntWalk.i64_in _ (by omega)]; omega
      have hbp:=Lib.hid (bad_prev hlt)
      have hE0:=hp.out m hml (by omega)
      have hRd:=hrd.below hbel2
      have hPm:=ar_at' hRd m hml
      have hT:=two_at hrd hlt
      have hpr:∀ x ∈ [l[m],l[m + 1]],areaE x = 0:=fun x hx=>by
       rcases List.mem_cons.1 hx with rfl | hx
       ·exact hE0
       ·rw [List.mem_singleton.1 hx]; exact he'.out
      have hup:Hid (∀ i (h:i < l.length),i < m + 1 + 1 → areaE l[i] = 0):=Lib.hid (upto' hp.out hlt he'.out)
      generalize hA1:l[m + 1] = A1 at *
      generalize hA0:l[m] = A0 at *
      by_cases hov:A1.fr < A0.en
      ·have hz:Hid (wrongA l = (2,((m + 1:Nat):Int))):=Lib.hid (by rw [hst.out]; exact wrong_stop hlt (by rw [hA1]; exact he'.out) (by rw [hA1,hbp.out,decide_eq_true hov]; rfl))
       have hpo:True:=trivial
       have hpl:True:=trivial
       refine wp_growP 25 [_,_,_,_,_,_,.v (.pointer (some ⟨b,off + m * 7,none⟩)),_,.v (.int .i64 A0.en),_,.v (.int .i64 A1.fr),_,_,_,_,_,_,_,_,_,_,_,_,_,.v (.bool true)] (Gk rfl (Gb (.bool true) (by simp [go_sem]) rfl rfl rfl rfl rfl (Gk rfl (Gk rfl (Gk rfl (Gb (.int .i64 (m:Int)) (by simp [go_sem,hm1,hm2]) rfl rfl rfl rfl rfl (all_cons ?_ (Gf b (off + m * 7 + 1) rfl rfl (all_cons ?_ (Gf gx 0 rfl rfl (all_cons ?_ (Gb (.bool true) (by simp [go_sem,hov]) rfl rfl rfl rfl rfl (Gk rfl (Gk rfl (Gk rfl (Gk rfl (Gk rfl (Gk rfl (Gk rfl (Gk rfl (Gk rfl (Gk rfl (Gk rfl (Gk rfl (Gk rfl (all_nil)))))))))))))))))))))))))) (fun _=>rfl) rfl ?_
       ·intro ρ y W hw hn hb hd; have E27:=hw 27 3 rfl; have h3:y 3 = _:=hd 3 rfl; have E29:=hw 29 5 rfl; have h5:y 5 = _:=hd 5 rfl
        refine asked_val (.pointer (some ⟨b,off + m * 7,none⟩)) (want_at 2 26 true true rfl rfl ((hw 26 2 rfl).trans (hd 2 rfl))) (by simp [execOp,go_sem,E27,h3,E29,h5,hml]) rfl
       ·intro ρ y W hw hn hb hd; have E31:=hw 31 7 rfl; have h7:y 7 = _:=hd 7 rfl
        have hc0:=(hPm.below hb).cells.2.1
        refine asked_val (.int .i64 A0.en) (want_at 2 26 true true rfl rfl ((hw 26 2 rfl).trans (hd 2 rfl))) (by simp [execOp,go_sem,E31,h7,hc0]) rfl
       ·intro ρ y W hw hn hb hd; have E33:=hw 33 9 rfl; have h9:y 9 = _:=hd 9 rfl
        have hc0:=(hx2.ext hb).cell 0
        simp at hc0
        refine asked_val (.int .i64 A1.fr) (want_at 2 26 true true rfl rfl ((hw 26 2 rfl).trans (hd 2 rfl))) (by simp [execOp,go_sem,E33,h9,hc0]) rfl
       intro y WA hbWA _
       have hbel:=below_next hbel2 hbWA
       have hres:=hres2.ext hbWA
       clear hbel2 hres2
       go_wp2_with (refine wpList_stw rfl _ _ _ rfl w.heap.size #[.int .i64 (2),.int .i64 (((m + 1:Nat):Int))] rfl rfl _ _ hres rfl fau_size (fau_one _ _) ?_)
       intro w5 hr5 hgr5
       have hbel5:Below w.heap.size w w5:=hbel.grown hgr5 hbel.size (fun k hk=>by cases hk; exact Nat.le_refl _)
       go_wp2
       refine bodyPost_ret (v:=.agg #[.int .i64 (2),.int .i64 (((m + 1:Nat):Int))]) (results_c Try.results89 _ _ w.heap.size _ _ _ rfl hr5 Try.underlying155 rfl fau_size) rfl ?_
       exact ⟨by rw [hz.out]; rfl,hbel5⟩
      ·have hs:srtF 0 [A0,A1]:=⟨hE0,(areaE_few hE0).1.2.1.1,he'.out,by omega,trivial⟩
       have hpo:=onesF_ok hs
       have hpl0:=pair_len hE0 he'.out (by omega:A0.en ≤ A1.fr)
       cases hj:joinsB A0 A1
       ·have hpl:(toA (onesF [A0,A1]) 64).length = 2:=by rw [hpl0,hj]; rfl
        have hnx:Hid (wrongA l = wrongAt (prevA l (m + 1 + 1)) (m + 1 + 1) (l.drop (m + 1 + 1))):=Lib.hid (by rw [hst.out]; exact wrong_next hlt (by rw [hA1]; exact he'.out) (by rw [hA1,hbp.out,decide_eq_false hov,hj]; rfl))
        clear hpl0 hs
        refine wp_growP 25 [_,_,_,_,_,_,.v (.pointer (some ⟨b,off + m * 7,none⟩)),_,.v (.int .i64 A0.en),_,.v (.int .i64 A1.fr),_,_,_,_,_,_,_,_,.v (.agg (fC (onesF [A0,A1]))),.r 20 ((ownR w.heap.size 69 7 (toA (onesF [A0,A1]) 64).length ((toA (onesF [A0,A1]) 64).flatMap arL))),.v (.int .i64 (2)),_,_,.v (.bool false)] (Gk rfl (Gb (.bool true) (by simp [go_sem]) rfl rfl rfl rfl rfl (Gk rfl (Gk rfl (Gk rfl (Gb (.int .i64 (m:Int)) (by simp [go_sem,hm1,hm2]) rfl rfl rfl rfl rfl (all_cons ?_ (Gf b (off + m * 7 + 1) rfl rfl (all_cons ?_ (Gf gx 0 rfl rfl (all_cons ?_ (Gb (.bool false) (by simp [go_sem,hov]) rfl rfl rfl rfl rfl (Gk rfl (Gk rfl (Gk rfl (Gb (.int .i64 (m:Int)) (by simp [go_sem,hm1,hm2]) rfl rfl rfl rfl rfl (Gk rfl (Gb (.int .i64 ((m:Int) + 2)) (by simp [go_sem,hm3,hm4]) rfl rfl rfl rfl rfl (Gr (.slice (some ⟨b,off + m * 7,none⟩) 2 (c - m)) (fun ρ y W hb hk=>(run_slice_two rfl (kx_at rfl hk) (kx_at rfl hk) (kx_at rfl hk) Try.underlying60 area_size hlt hlc)) rfl rfl (all_cons ?_ (all_cons ?_ (all_cons ?_ (Gb (.bool false) (by simp [go_sem]) rfl rfl rfl rfl rfl (Gk rfl (Gk rfl (all_nil)))))))))))))))))))))))))) (fun _=>rfl) rfl ?_
        ·intro ρ y W hw hn hb hd; have E27:=hw 27 3 rfl; have h3:y 3 = _:=hd 3 rfl; have E29:=hw 29 5 rfl; have h5:y 5 = _:=hd 5 rfl
         refine asked_val (.pointer (some ⟨b,off + m * 7,none⟩)) (want_at 2 26 true true rfl rfl ((hw 26 2 rfl).trans (hd 2 rfl))) (by simp [execOp,go_sem,E27,h3,E29,h5,hml]) rfl
        ·intro ρ y W hw hn hb hd; have E31:=hw 31 7 rfl; have h7:y 7 = _:=hd 7 rfl
         have hc0:=(hPm.below hb).cells.2.1
         refine asked_val (.int .i64 A0.en) (want_at 2 26 true true rfl rfl ((hw 26 2 rfl).trans (hd 2 rfl))) (by simp [execOp,go_sem,E31,h7,hc0]) rfl
        ·intro ρ y W hw hn hb hd; have E33:=hw 33 9 rfl; have h9:y 9 = _:=hd 9 rfl
         have hc0:=(hx2.ext hb).cell 0
         simp at hc0
         refine asked_val (.int .i64 A1.fr) (want_at 2 26 true true rfl rfl ((hw 26 2 rfl).trans (hd 2 rfl))) (by simp [execOp,go_sem,E33,h9,hc0]) rfl
        ·intro ρ y W hw hn hb hd; have E42:=hw 42 18 rfl; have h18:y 18 = _:=hd 18 rfl
         have EF:∀ f,ρ (.func f) = .func (.func f) #[] #[]:=fun f=>hn (.func f) trivial
         refine asked_call _ _ (want_at 12 36 false false rfl rfl ((hw 36 12 rfl).trans (hd 12 rfl))) (run_call rfl (EF _) Try.func44 (by kernel_rfl) (by kernel_rfl) (by simp only [List.map_toArray,List.map_cons,List.map_nil,E42,h18,EF]; rfl)) ?_
         refine (ones_any [A0,A1] _ (c - m) W (hT.below (below_next hbel2 hb)) (by simp) hpr).mono ?_
         rintro r w1 ⟨rfl,hb1⟩
         exact ⟨_,rfl,hb1,rfl⟩
        ·intro ρ y W hw hn hb hd; have E43:=hw 43 19 rfl; have h19:y 19 = _:=hd 19 rfl
         have EF:∀ f,ρ (.func f) = .func (.func f) #[] #[]:=fun f=>hn (.func f) trivial
         refine asked_call _ _ (want_at 12 36 false false rfl rfl ((hw 36 12 rfl).trans (hd 12 rfl))) (run_call rfl (EF _) Try.func118 (by kernel_rfl) (by kernel_rfl) (by simp only [List.map_toArray,List.map_cons,List.map_nil,E43,h19,EF]; rfl)) ?_
         refine (areas_any (onesF [A0,A1]) W hpo).mono ?_
         rintro r w1 ⟨v1,rfl,ho,hb1⟩
         exact ⟨v1,rfl,hb1,ho.mono (Nat.le_trans hbel2.size hb.size)⟩
        ·intro ρ y W hw hn hb hd; have E44:=hw 44 20 rfl; have h20:=hd 20 rfl
         obtain ⟨a20,c20,h20v,_⟩:=Own.rd h20
         refine asked_val (.int .i64 (2)) (want_at 12 36 false false rfl rfl ((hw 36 12 rfl).trans (hd 12 rfl))) (by simp [execOp,go_sem,E44,h20v,hpl]) rfl
        intro y WA hbWA hRWA
        have hy20:((ownR w.heap.size 69 7 (toA (onesF [A0,A1]) 64).length ((toA (onesF [A0,A1]) 64).flatMap arL))).r (y 20) WA:=hRWA 20 (by decide)
        clear hRWA
        have hbel:=below_next hbel2 hbWA
        have hres:=hres2.ext hbWA
        clear hbel2 hres2 hm1 hm2 hm3 hm4 hpl
        go_wp2
        go_roundw
        case rel=>exact ⟨m + 1 + 1,by omega,by go_num,hbel,hres,hup.out,hnx⟩
        case measure=>simp [intOf]; omega
       ·have hpl:(toA (onesF [A0,A1]) 64).length = 1:=by rw [hpl0,hj]; rfl
        have hz:Hid (wrongA l = (2,((m + 1:Nat):Int))):=Lib.hid (by rw [hst.out]; exact wrong_stop hlt (by rw [hA1]; exact he'.out) (by rw [hA1,hbp.out,hj,Bool.or_true]))
        clear hpl0 hs
        refine wp_growP 25 [_,_,_,_,_,_,.v (.pointer (some ⟨b,off + m * 7,none⟩)),_,.v (.int .i64 A0.en),_,.v (.int .i64 A1.fr),_,_,_,_,_,_,_,_,.v (.agg (fC (onesF [A0,A1]))),.r 20 ((ownR w.heap.size 69 7 (toA (onesF [A0,A1]) 64).length ((toA (onesF [A0,A1]) 64).flatMap arL))),.v (.int .i64 (1)),_,_,.v (.bool true)] (Gk rfl (Gb (.bool true) (by simp [go_sem]) rfl rfl rfl rfl rfl (Gk rfl (Gk rfl (Gk rfl (Gb (.int .i64 (m:Int)) (by simp [go_sem,hm1,hm2]) rfl rfl rfl rfl rfl (all_cons ?_ (Gf b (off + m * 7 + 1) rfl rfl (all_cons ?_ (Gf gx 0 rfl rfl (all_cons ?_ (Gb (.bool false) (by simp [go_sem,hov]) rfl rfl rfl rfl rfl (Gk rfl (Gk rfl (Gk rfl (Gb (.int .i64 (m:Int)) (by simp [go_sem,hm1,hm2]) rfl rfl rfl rfl rfl (Gk rfl (Gb (.int .i64 ((m:Int) + 2)) (by simp [go_sem,hm3,hm4]) rfl rfl rfl rfl rfl (Gr (.slice (some ⟨b,off + m * 7,none⟩) 2 (c - m)) (fun ρ y W hb hk=>(run_slice_two rfl (kx_at rfl hk) (kx_at rfl hk) (kx_at rfl hk) Try.underlying60 area_size hlt hlc)) rfl rfl (all_cons ?_ (all_cons ?_ (all_cons ?_ (Gb (.bool true) (by simp [go_sem]) rfl rfl rfl rfl rfl (Gk rfl (Gk rfl (all_nil)))))))))))))))))))))))))) (fun _=>rfl) rfl ?_
        ·intro ρ y W hw hn hb hd; have E27:=hw 27 3 rfl; have h3:y 3 = _:=hd 3 rfl; have E29:=hw 29 5 rfl; have h5:y 5 = _:=hd 5 rfl
         refine asked_val (.pointer (some ⟨b,off + m * 7,none⟩)) (want_at 2 26 true true rfl rfl ((hw 26 2 rfl).trans (hd 2 rfl))) (by simp [execOp,go_sem,E27,h3,E29,h5,hml]) rfl
        ·intro ρ y W hw hn hb hd; have E31:=hw 31 7 rfl; have h7:y 7 = _:=hd 7 rfl
         have hc0:=(hPm.below hb).cells.2.1
         refine asked_val (.int .i64 A0.en) (want_at 2 26 true true rfl rfl ((hw 26 2 rfl).trans (hd 2 rfl))) (by simp [execOp,go_sem,E31,h7,hc0]) rfl
        ·intro ρ y W hw hn hb hd; have E33:=hw 33 9 rfl; have h9:y 9 = _:=hd 9 rfl
         have hc0:=(hx2.ext hb).cell 0
         simp at hc0
         refine asked_val (.int .i64 A1.fr) (want_at 2 26 true true rfl rfl ((hw 26 2 rfl).trans (hd 2 rfl))) (by simp [execOp,go_sem,E33,h9,hc0]) rfl
        ·intro ρ y W hw hn hb hd; have E42:=hw 42 18 rfl; have h18:y 18 = _:=hd 18 rfl
         have EF:∀ f,ρ (.func f) = .func (.func f) #[] #[]:=fun f=>hn (.func f) trivial
         refine asked_call _ _ (want_at 12 36 false false rfl rfl ((hw 36 12 rfl).trans (hd 12 rfl))) (run_call rfl (EF _) Try.func44 (by kernel_rfl) (by kernel_rfl) (by simp only [List.map_toArray,List.map_cons,List.map_nil,E42,h18,EF]; rfl)) ?_
         refine (ones_any [A0,A1] _ (c - m) W (hT.below (below_next hbel2 hb)) (by simp) hpr).mono ?_
         rintro r w1 ⟨rfl,hb1⟩
         exact ⟨_,rfl,hb1,rfl⟩
        ·intro ρ y W hw hn hb hd; have E43:=hw 43 19 rfl; have h19:y 19 = _:=hd 19 rfl
         have EF:∀ f,ρ (.func f) = .func (.func f) #[] #[]:=fun f=>hn (.func f) trivial
         refine asked_call _ _ (want_at 12 36 false false rfl rfl ((hw 36 12 rfl).trans (hd 12 rfl))) (run_call rfl (EF _) Try.func118 (by kernel_rfl) (by kernel_rfl) (by simp only [List.map_toArray,List.map_cons,List.map_nil,E43,h19,EF]; rfl)) ?_
         refine (areas_any (onesF [A0,A1]) W hpo).mono ?_
         rintro r w1 ⟨v1,rfl,ho,hb1⟩
         exact ⟨v1,rfl,hb1,ho.mono (Nat.le_trans hbel2.size hb.size)⟩
        ·intro ρ y W hw hn hb hd; have E44:=hw 44 20 rfl; have h20:=hd 20 rfl
         obtain ⟨a20,c20,h20v,_⟩:=Own.rd h20
         refine asked_val (.int .i64 (1)) (want_at 12 36 false false rfl rfl ((hw 36 12 rfl).trans (hd 12 rfl))) (by simp [execOp,go_sem,E44,h20v,hpl]) rfl
        intro y WA hbWA hRWA
        have hy20:((ownR w.heap.size 69 7 (toA (onesF [A0,A1]) 64).length ((toA (onesF [A0,A1]) 64).flatMap arL))).r (y 20) WA:=hRWA 20 (by decide)
        clear hRWA
        have hbel:=below_next hbel2 hbWA
        have hres:=hres2.ext hbWA
        clear hbel2 hres2
        go_wp2_with (refine wpList_stw rfl _ _ _ rfl w.heap.size #[.int .i64 (2),.int .i64 (((m + 1:Nat):Int))] rfl rfl _ _ hres rfl fau_size (fau_one _ _) ?_)
        intro w5 hr5 hgr5
        have hbel5:Below w.heap.size w w5:=hbel.grown hgr5 hbel.size (fun k hk=>by cases hk; exact Nat.le_refl _)
        go_wp2
        refine bodyPost_ret (v:=.agg #[.int .i64 (2),.int .i64 (((m + 1:Nat):Int))]) (results_c Try.results89 _ _ w.heap.size _ _ _ rfl hr5 Try.underlying155 rfl fau_size) rfl ?_
        exact ⟨by rw [hz.out]; rfl,hbel5⟩
    ·have hz:Hid (wrongA l = (areaE l[k],(k:Int))):=Lib.hid (by rw [hst.out]; exact wrong_bad hlt he)
     have he' : (areaE l[k] != 0) = true:=by simpa using he
     have hbel:=hbel2
     have hres:=hres2
     clear he hbel2 hres2
     go_wp2_with (refine wpList_stw rfl _ _ _ rfl w.heap.size #[.int .i64 (areaE l[k]),.int .i64 (k)] rfl rfl _ _ hres rfl fau_size (fau_one _ _) ?_)
     intro w5 hr5 hgr5
     have hbel5:Below w.heap.size w w5:=hbel.grown hgr5 hbel.size (fun k hk=>by cases hk; exact Nat.le_refl _)
     go_wp2
     refine bodyPost_ret (v:=.agg #[.int .i64 (areaE l[k]),.int .i64 (k)]) (results_c Try.results89 _ _ w.heap.size _ _ _ rfl hr5 Try.underlying155 rfl fau_size) rfl ?_
     exact ⟨by rw [hz.out]; rfl,hbel5⟩
   ·have hz:Hid (wrongA l = (0,0)):=Lib.hid (by rw [hst.out,List.drop_eq_nil_of_le (by omega)]; rfl)
    go_wp2_with (refine wpList_stw rfl _ _ _ rfl w.heap.size #[.int .i64 (0),.int .i64 (0)] rfl rfl _ _ hres rfl fau_size (fau_one _ _) ?_)
    intro w5 hr5 hgr5
    have hbel5:Below w.heap.size w w5:=hbel.grown hgr5 hbel.size (fun k hk=>by cases hk; exact Nat.le_refl _)
    go_wp2
    refine bodyPost_ret (v:=.agg #[.int .i64 (0),.int .i64 (0)]) (results_c Try.results89 _ _ w.heap.size _ _ _ rfl hr5 Try.underlying155 rfl fau_size) rfl ?_
    exact ⟨by rw [hz.out]; rfl,hbel5⟩
open Go.Maps
theorem ents_size:(Try.prog.info? 95).map (·.size) = some 192:=by kernel_rfl
theorem putAt_sub {cur:Array Value} {o d:Nat} {xs ys vs:List Value} (hlen:ys.length = xs.length) (hfit:o + xs.length ≤ cur.size) (hc:∀ j u,xs[j]? = some u → cur[o + j]? = some u) (hd:d + vs.length ≤ xs.length)
  (hin:∀ i,i < vs.length → ys[d + i]? = vs[i]?) (hout:∀ i,(i < d ∨ d + vs.length ≤ i) → ys[i]? = xs[i]?):putAt cur (o + d) vs = putAt cur o ys:=by
 apply Array.ext_getElem?
 intro m
 by_cases h1:o ≤ m ∧ m < o + xs.length
 ·obtain ⟨e,rfl⟩:∃ e,m = o + e:=⟨m - o,by omega⟩
  obtain ⟨u,hu⟩:∃ u,ys[e]? = some u:=⟨_,List.getElem?_eq_getElem (by omega)⟩
  rw [putAt_in _ _ _ _ u (by omega) hu]
  by_cases h2:d ≤ e ∧ e < d + vs.length
  ·obtain ⟨i,rfl⟩:∃ i,e = d + i:=⟨e - d,by omega⟩
   rw [hin i (by omega)] at hu
   rw [← Nat.add_assoc]
   exact putAt_in _ _ _ _ u (by omega) hu
  ·rw [hout e (by omega)] at hu
   rw [putAt_out _ _ _ _ (by omega)]
   exact hc _ _ hu
 ·rw [putAt_out _ _ _ _ (by omega),putAt_out _ _ _ _ (by omega)]
theorem upFr_put {cur:Array Value} {o:Nat} {X:Fr} (hfit:o + 13 ≤ cur.size) (hc:∀ j u,(frL X)[j]? = some u → cur[o + j]? = some u):putAt cur (o + 8) [.int .i64 (X.r + 1)] = putAt cur o (frL (upFr X)):=
 putAt_sub (xs:=frL X) rfl hfit hc (by show 8 + 1 ≤ 13; omega) (fun i hi=>by
  obtain rfl:i = 0:=by simpa using hi
  rfl) (fun i hi=>by
  match i,hi with
  | 0,_=>rfl
  | 1,_=>rfl
  | 2,_=>rfl
  | 3,_=>rfl
  | 4,_=>rfl
  | 5,_=>rfl
  | 6,_=>rfl
  | 7,_=>rfl
  | 8,h=>exact absurd h (by show ¬ (8 < 8 ∨ 8 + 1 ≤ 8); omega)
  | 9,_=>rfl
  | 10,_=>rfl
  | 11,_=>rfl
  | 12,_=>rfl
  | n + 13,_=>rfl)
def EnterR (S:MW) (p n:Nat) (B b:Nat) (w:World) (r:Ending) (w' : World):Prop:=∃ S',r = .returned (.tuple #[]) ∧ MkO w' B b S' ∧ MS w b S w' S' ∧ Kep S S' ∧ Bd S'.H.ma S'.T ∧ ∀ q j,¬ (q = p ∧ j = n) → entT S'.T q j = entT S.T q j
theorem renter_any (S:MW) (p n:Nat) (g:Pg) (B b:Nat) (w:World) (h:MkO w B b S) (hd:Bd S.H.ma S.T) (hp:p < S.H.sp.length) (hn:n < 64) (h0:(entT S.T p n).k = 0) (hg:onA (spN S.H.ma p).ar n = some g) (hfi:g.fi < S.H.fi.length) (hpg:0 ≤ g.pg) (hsh:g.sh = true → 0 ≤ g.fi) :
  Calls Try.prog 76 #[.pointer (some ⟨b,0,none⟩),.int .i64 p,.int .i64 n,.agg #[.bool true,.bool g.rd,.bool g.wr,.bool g.sh,.int .i64 g.fi,.int .i64 g.pg]] w (EnterR S p n B b w):=by
 obtain ⟨grd,gwr,gsh,gfi,gpg⟩:=g
 dsimp only at hfi hpg hsh ⊢
 obtain ⟨I,rfl⟩:=Int.eq_ofNat_of_zero_le hpg
 have hd':=Lib.hid hd
 have hg':=Lib.hid hg
 have h0':=Lib.hid h0
 have hBs:=Lib.hid h.bs
 clear hd hg h0 hpg
 go_enter Try.func76,Try.ntmps76
 go_upto_region 1 with (fail)
 refine abs1 (fun W=>Code.wp _ _ _ _ W) fun w1 hb1 bx1 hs1 => ?_
 have h1:=h.below hb1
 have s1:=(MS.refl w b S).below hb1
 have hn0:=Lib.hid (h.new (Nat.le_refl _))
 clear h hb1 hs1
 go_wp2_with fail
 refine (rpick_any _ 4 B b _ h1 (by omega)).mono ?_
 rintro r w2 ⟨x,a2,c2,l2,rfl,h2,s2,hx,_⟩
 have bx2:=s2.blkN bx1 hn0.out
 have s2:=s1.trans s2
 clear h1 s1 bx1
 have hcx:=bx2.cell
 go_upto_region 5 with (fail)
 by_cases hx0:x = 0
 ·subst hx0
  go_wp2
  refine bodyPost_ret (v:=.tuple #[]) (by simp [results,go_sem,Try.results76]) rfl ?_
  exact ⟨_,rfl,h2,s2,⟨rfl,rfl,rfl,rfl,rfl,rfl⟩,hd'.out,fun _ _ _=>rfl⟩
 ·have hx0b:(x == 0) = false:=by simp [hx0]
  go_upto_region 6 with (fail)
  go_cut [44] (fun s44 wx=>s44 = .bool (decide (0 ≤ gfi ∧ (gsh = true ∨ x = 1))) ∧ wx = w2)
  case first=>
   by_cases hf:0 ≤ gfi
   ·cases gsh with
    | true=>
     go_wp2
     go_meet
     case rel=>exact ⟨by simp [hf],rfl⟩
    | false=>
     by_cases hx1:x = 1
     ·have hx1b:(x == 1) = true:=by simp [hx1]
      have hx1':=Lib.hid hx1
      clear hx1
      go_wp2
      go_meet
      case rel=>exact ⟨by rw [decide_eq_true ⟨hf,.inr hx1'.out⟩],rfl⟩
     ·have hx1b:(x == 1) = false:=by simp [hx1]
      go_wp2
      go_meet
      case rel=>exact ⟨by rw [decide_eq_false (by rintro ⟨_,h | h⟩; cases h; exact hx1 h)],rfl⟩
   ·go_wp2
    go_meet
    case rel=>exact ⟨by rw [decide_eq_false (fun h=>by have:=h.1; omega)],rfl⟩
  case rest=>
   obtain ⟨rfl,hwc⟩:=hcut
   subst wc
   by_cases hF:0 ≤ gfi ∧ (gsh = true ∨ x = 1)
   ·rw [decide_eq_true hF]
    obtain ⟨F,rfl⟩:=Int.eq_ofNat_of_zero_le hF.1
    have hFl:F < S.H.fi.length:=by omega
    obtain ⟨p0,hp0⟩:∃ p0,S.H.fi[F]? = some p0:=⟨_,List.getElem?_eq_getElem hFl⟩
    have hfa:Hid (fileAt S.H.ma.st (F:Int) = p0.fi):=Lib.hid (fileAt_nat (by show (S.H.fi.map PF.fi)[F]? = _; rw [List.getElem?_map,hp0]; rfl))
    obtain ⟨bf,of,hai,hrd⟩:=elemR pfL_len (by decide) h2.ma.rd.st.rd F hFl
    have hai:S.H.ai = some ⟨bf,of,none⟩:=hai
    have hrd:RdV w2 (some ⟨bf,of + F * 2,none⟩) (pfL p0):=by rw [← (List.getElem?_eq_some_iff.1 hp0).2]; exact hrd
    have rc1:∀ W,Below w2.heap.size w2 W → W.cell? ⟨bf,of + F * 2 + 1,none⟩ = some (.slice p0.a p0.l.length p0.c):=fun W hb=>by
     obtain ⟨b',o',e,hcc⟩:=(hrd.below hb) 1 _ rfl
     cases e
     exact hcc
    have hfi':=Lib.hid hfi
    clear hp0 hrd hfi
    go_upto_region 7 with (fail)
    by_cases hge:(p0.l.length:Int) ≤ (I:Int)
    ·skip
     refine wp_growP 15 [_,_,_,_,_,_,_,_,_,_,_,_,_,_,_] (Gf w.heap.size 5 rfl rfl (Gl bx2 rfl rfl rfl rfl rfl (Gk rfl (Gk rfl (Gf b 1 rfl rfl (Gf b 8 rfl rfl (Gf b 8 rfl rfl (Gl h2.blk (V:=.slice (some ⟨bf,of,none⟩) S.H.fi.length S.H.ci) (by simp [mkC,MW.lst,hai]) rfl rfl rfl rfl (Gf w.heap.size 4 rfl rfl (Gl bx2 rfl rfl rfl rfl rfl (Gr (.pointer (some ⟨bf,of + F * 2,none⟩)) (fun ρ y W hb hk=>(run_idx rfl (kx_at rfl hk) (kx_at rfl hk) hFl Try.underlying34 file_size)) rfl rfl (Gf bf (of + F * 2 + 1) rfl rfl (Gc (.slice p0.a p0.l.length p0.c) (fun W hb=>by simp [rc1 _ hb]) rfl rfl rfl rfl (Gn rfl rfl rfl rfl (Gb (.bool true) (by simp [go_sem,hge]) rfl rfl rfl rfl rfl (all_nil)))))))))))))))) (fun _=>rfl) rfl ?_
     intro y W3 hbW3 _
     have h3:=h2.below hbW3
     have s3:=s2.below hbW3
     have bx3:=bx2.ext hbW3
     clear h2 s2 bx2 hcx hbW3 rc1 hai
     have hcx:=bx3.cell
     go_wp2
     refine bodyPost_ret (v:=.tuple #[]) (by simp [results,go_sem,Try.results76]) rfl ?_
     exact ⟨_,rfl,h3,s3,⟨rfl,rfl,rfl,rfl,rfl,rfl⟩,hd'.out,fun _ _ _=>rfl⟩
    ·skip
     refine wp_growP 15 [_,_,_,_,_,_,_,_,_,_,_,_,_,_,_] (Gf w.heap.size 5 rfl rfl (Gl bx2 rfl rfl rfl rfl rfl (Gk rfl (Gk rfl (Gf b 1 rfl rfl (Gf b 8 rfl rfl (Gf b 8 rfl rfl (Gl h2.blk (V:=.slice (some ⟨bf,of,none⟩) S.H.fi.length S.H.ci) (by simp [mkC,MW.lst,hai]) rfl rfl rfl rfl (Gf w.heap.size 4 rfl rfl (Gl bx2 rfl rfl rfl rfl rfl (Gr (.pointer (some ⟨bf,of + F * 2,none⟩)) (fun ρ y W hb hk=>(run_idx rfl (kx_at rfl hk) (kx_at rfl hk) hFl Try.underlying34 file_size)) rfl rfl (Gf bf (of + F * 2 + 1) rfl rfl (Gc (.slice p0.a p0.l.length p0.c) (fun W hb=>by simp [rc1 _ hb]) rfl rfl rfl rfl (Gn rfl rfl rfl rfl (Gb (.bool false) (by simp [go_sem,hge]) rfl rfl rfl rfl rfl (all_nil)))))))))))))))) (fun _=>rfl) rfl ?_
     intro y W3 hbW3 _
     have h3:=h2.below hbW3
     have s3:=s2.below hbW3
     have bx3:=bx2.ext hbW3
     clear h2 s2 bx2 hcx hbW3 rc1 hai
     have hcx:=bx3.cell
     go_wp2_with fail
     refine (rcached_any _ F I B b _ h3 hd'.out ⟨⟨by omega,by simp [MH.ma,stOf,MW.lst]; omega⟩,by omega,by show (I:Int) < (fileAt S.H.ma.st (F:Int)).b.length; rw [hfa.out]; show (I:Int) < p0.l.length; omega⟩).mono ?_
     rintro r w4 ⟨x3,S3,rfl,h4,s4,k4,t4,bd4,hx4⟩
     have bx4:=s4.blkN bx3 hn0.out
     have hn4:=Lib.hid (s4.not bx3.lt hn0.out)
     have s4:=s3.trans s4
     clear h3 s3 bx3 hcx
     have hcx:=bx4.cell
     rcases hx4 with rfl | ⟨c,hcm,hcf,hci,rfl⟩
     ·go_wp2
      refine bodyPost_ret (v:=.tuple #[]) (by simp [results,go_sem,Try.results76]) rfl ?_
      exact ⟨S3,rfl,h4,s4,⟨k4.sp,k4.fi,k4.ct,k4.dk,k4.fl,k4.sl⟩,bd4,fun _ _ _=>by rw [t4]; rfl⟩
     ·have hlt:=bd4.rt.ca.lt c hcm
      obtain ⟨f,hfk⟩:=Int.eq_ofNat_of_zero_le hlt.1
      have hfl:f < S3.H.m.fs.length:=by have e:((fullM S3.H.ma S3.T).m.fs.length:Nat) = S3.H.m.fs.length:=rfl; omega
      have hcm':=Lib.hid (And.intro hcm (And.intro hcf hci))
      have hfk':=Lib.hid hfk
      rw [hfk]
      clear hlt hcm hcf hci hfk
      obtain ⟨gf,off,cap,cur,hv,hgB,hgk,hgs,hgc,hgw⟩:=h4.ma.fr.put frL_len (by decide) f hfl
      have haf:S3.H.af = some ⟨gf,off,none⟩:=(Value.slice.inj hv).1
      have hX:Hid (frN S3.H.ma f = S3.H.m.fs[f]):=Lib.hid (by
       unfold frN
       show S3.H.m.fs.getD f fr0 = _
       rw [List.getD_eq_getElem?_getD,List.getElem?_eq_getElem (by omega)]; rfl)
      have hr0:=bd4.rt.fewR (f:=f) hfl
      have hr1:0 ≤ (S3.H.m.fs[f]).r ∧ (S3.H.m.fs[f]).r ≤ 257:=by rw [← hX.out]; exact hr0
      have c8:w4.cell? ⟨gf,off + f * 13 + 8,none⟩ = some (.int .i64 (S3.H.m.fs[f]).r):=hgc 8 _ rfl
      have hgw':=Lib.hid hgw
      have hgc':=Lib.hid hgc
      clear hv hgw hgc hr0
      generalize S3.H.m.fs[f] = X at c8 hX hr1 hgc'
      have hc:=h4.blk.cell
      unfold mkC at hc
      rw [haf] at hc
      have hwr:IntKind.i64.wrap (X.r + 1) = X.r + 1:=IntWalk.i64_in _ (by omega)
      have hfi2:(f:Int) < (S3.H.m.fs.length:Int):=by omega
      go_wp2_with (refine wpList_stv rfl _ _ _ rfl gf (off + f * 13 + 8) _ [.int .i64 (X.r + 1)] rfl rfl rfl _ _ hgk (by show off + f * 13 + 8 + 1 ≤ cur.size; omega) (by kernel_rfl) (fun u hu=>by cases List.mem_singleton.1 hu; rfl) ?_)
      intro w5 hb5 hg5
      rw [upFr_put (by omega) (fun j u hj=>by rw [← hgk.cell]; exact hgc'.out j u hj)] at hb5
      have h5:MkO w5 B b (S3.frs (S3.H.m.fs.set f (upFr X))):=h4.putF hgk hgB hg5 (fs:=S3.H.m.fs.set f (upFr X)) (by simp) (by simpa using hgw'.out _ _ hb5)
      have hkaf:kbM b S3 gf:=.inr (by simp only [klM,haf]; exact List.mem_cons_self)
      have s5:=s4.put (H':=S3.frs (S3.H.m.fs.set f (upFr X))) hg5 hkaf (fun x hx => .inl hx)
      have bx5:=bx4.grown hg5 (fun e=>hn4.out (by rw [← Option.some.inj e]; exact hkaf))
      have hn5:Hid (¬ kbM b (S3.frs (S3.H.m.fs.set f (upFr X))) w.heap.size):=hn4
      have hTl:S3.T.length = S.H.sp.length:=by have:=bd4.ok.len; rw [this]; show (S3.H.sp.map PS.sp).length = _; rw [List.length_map,k4.sp]; rfl
      have hpT:p < S3.T.length:=by omega
      have hTn:∀ (S' : MW),S'.T = S3.T → (lstT S'.T p).length = 64:=fun S' e=>by rw [e]; exact bd4.ok.l64 (by rw [← bd4.ok.len]; exact hpT)
      have hsp4:spN S3.H.ma p = spN S.H.ma p:=by
       show (S3.H.sp.map PS.sp).getD p zSp = (S.H.sp.map PS.sp).getD p zSp
       rw [k4.sp]; rfl
      have hp4:p < S3.H.ma.sp.length:=by show p < (S3.H.sp.map PS.sp).length; rw [List.length_map,k4.sp]; exact hp
      have hbdu:Hid (∀ u:Bool,(u = true → gsh = true ∧ gwr = true) → Bd (S3.frs (S3.H.m.fs.set f (upFr X))).H.ma (setL (S3.frs (S3.H.m.fs.set f (upFr X))).T p n ⟨1,f,u⟩)):=Lib.hid fun u hu=>by
       have h9:=bd4.cachedE (w:=u) hp4 hn (by rw [t4]; exact h0'.out) hcm'.out.1 (by rw [hsp4]; exact hg'.out) hcm'.out.2 hu
       rw [hfk'.out,Int.toNat_natCast,hX.out] at h9
       exact h9
      have hK5:Hid (Kep S (S3.frs (S3.H.m.fs.set f (upFr X)))):=Lib.hid ⟨k4.sp,k4.fi,k4.ct,k4.dk,by show (S3.H.m.fs.set f (upFr X)).length = _; rw [List.length_set]; exact k4.fl,k4.sl⟩
      have hent5:Hid (∀ x q j,¬ (q = p ∧ j = n) → entT (setL (S3.frs (S3.H.m.fs.set f (upFr X))).T p n x) q j = entT S.T q j):=Lib.hid fun x q j hne=>by
       show entT (setL S3.T p n x) q j = _
       rw [entT_set bd4.ok hp4 hn,if_neg hne,t4]; rfl
      have hpT5:Hid (p < (S3.frs (S3.H.m.fs.set f (upFr X))).T.length):=Lib.hid hpT
      have hTn5:Hid (∀ S' : MW,S'.T = (S3.frs (S3.H.m.fs.set f (upFr X))).T → (lstT S'.T p).length = 64):=Lib.hid hTn
      generalize S3.frs (S3.H.m.fs.set f (upFr X)) = S5 at *
      obtain ⟨gT,oT,_,hab,_⟩:=MkO.ent (S:=S5) h5 (p:=p) (n:=n) hpT5.out hn (hTn5.out _ rfl)
      clear hsp4 hp4 hpT hTn hTl
      clear h4 s4 bx4 hcx hc c8 hb5 hg5 hgk hgc' hgw' hgs haf
      go_upto_region 11 with (fail)
      cases gsh with
      | true=>cases gwr with
       | true=>
        skip
        refine wp_growPQ 20 [_,_,_,.v (.slice (some ⟨gT,oT,none⟩) S5.T.length S5.cb),_,.v (.int .i64 (n:Int)),_,_,.v (.bool true),_,_,.v (.bool true),_,_,_,.r 15 ((fixR fun v => ∃ x:Int,v = .int .i64 x ∧ 0 ≤ x)),.r 16 ((fixR fun v => ∃ u,v = .bool u)),.r 17 ((fixR fun v => ∃ u,(u = true → true = true) ∧ v = .bool u)),.r 18 ((fixR fun v => ∃ u,(u = true → true = true) ∧ v = .agg #[.int .i64 1,.int .i64 (f:Int),.bool u])),_] (jPk S5 B b w5 [(w.heap.size,#[.bool true,.bool grd,.bool true,.bool true,.int .i64 (F:Int),.int .i64 (I:Int)],106)]) jPk_st (fun _=>⟨S5.al,S5.cl,S5.l,h5,MS.refl _ _ _,by simpa using ⟨bx5,hn5.out⟩⟩) (Qk jPk_st rfl (Qk jPk_st rfl (Qf jPk_st b 12 rfl rfl (all_cons ?_ (Qk jPk_st rfl (Qk jPk_st rfl (Qk jPk_st rfl (Qf jPk_st w.heap.size 3 rfl rfl (all_cons ?_ (Qk jPk_st rfl (Qf jPk_st w.heap.size 2 rfl rfl (all_cons ?_ (Qk jPk_st rfl (Qk jPk_st rfl (Qk jPk_st rfl (all_cons ?_ (all_cons ?_ (all_cons ?_ (all_cons ?_ (Qr jPk_st (.pointer (some ⟨gT,oT + p * 192,none⟩)) (fun ρ y W hk=>(run_idx rfl (kx_at rfl hk) (kx_at rfl hk) hpT5.out Try.underlying87 ents_size)) rfl rfl (all_nil))))))))))))))))))))) (fun _=>rfl) rfl ?_
        ·intro ρ y W L hw hn hLi hLd hb hd
         refine askQ jPk_st (fun _ _ h=>h) hb ?_
         have E94:=hw 94 2 rfl
         have h2:y 2 = _:=hd 2 rfl
         obtain ⟨a,c,l,m1,m2,m3⟩:=hb
         refine asked_val (.slice (some ⟨gT,oT,none⟩) S5.T.length S5.cb) (want_free rfl) (by simp [execOp,go_sem,E94,h2,m1.blk.cell,mkC,MW.lst,hab]) rfl
        ·intro ρ y W L hw hn hLi hLd hb hd
         refine askQ jPk_st (fun _ _ h=>h) hb ?_
         have E99:=hw 99 7 rfl
         have h7:y 7 = _:=hd 7 rfl
         obtain ⟨a,c,l,m1,m2,m3⟩:=hb
         have m3:=(m3 _ (List.mem_singleton.2 rfl)).1
         refine asked_val (.bool true) (want_free rfl) (by simp [execOp,go_sem,E99,h7,m3.cell]) rfl
        ·intro ρ y W L hw hn hLi hLd hb hd
         refine askQ jPk_st (fun _ _ h=>h) hb ?_
         have E102:=hw 102 10 rfl
         have h10:y 10 = _:=hd 10 rfl
         obtain ⟨a,c,l,m1,m2,m3⟩:=hb
         have m3:=(m3 _ (List.mem_singleton.2 rfl)).1
         refine asked_val (.bool true) (want_at 9 101 true true rfl rfl ((hw 101 9 rfl).trans (hd 9 rfl))) (by simp [execOp,go_sem,E102,h10,m3.cell]) rfl
        ·intro ρ y W L hw hn hLi hLd hb hd; have E106:=hw 106 14 rfl; have h14:y 14 = _:=hd 14 rfl
         have EC:∀ v,ρ (.const v) = v:=fun v=>hn (.const v) trivial
         have EF:∀ f,ρ (.func f) = .func (.func f) #[] #[]:=fun f=>hn (.func f) trivial
         refine asked_callQ _ _ (want_at 13 105 true true rfl rfl ((hw 105 13 rfl).trans (hd 13 rfl))) (run_call rfl (EF _) Try.func28 (by kernel_rfl) (by kernel_rfl) (by simp only [List.map_toArray,List.map_cons,List.map_nil,E106,h14,EC,EF]; rfl)) ?_
         exact jPk_pick 2 (by omega) hb fun x h1 _ _ _=>⟨x,rfl,h1⟩
        ·intro ρ y W L hw hn hLi hLd hb hd
         refine askQ jPk_st (fun _ _ h=>h) hb ?_
         have E107:=hw 107 15 rfl
         have h15:=hd 15 rfl
         obtain ⟨x,hx,_⟩:=h15
         refine asked_val _ (want_at 13 105 true true rfl rfl ((hw 105 13 rfl).trans (hd 13 rfl))) (run_bin rfl (E107.trans hx) (hn (.const _) trivial) (by simp [go_sem]; rfl)) ⟨_,rfl⟩
        ·intro ρ y W L hw hn hLi hLd hb hd
         refine askQ jPk_st (fun _ _ h=>h) hb ?_
         have E105:=hw 105 13 rfl
         have h13:y 13 = _:=hd 13 rfl
         have E108:=hw 108 16 rfl
         have h16:=hd 16 rfl
         obtain ⟨u,hu⟩:=h16
         refine asked_val (.bool u) (want_free rfl) (run_pick rfl (E105.trans h13) (by simpa using E108.trans hu)) ⟨_,fun _=>rfl,rfl⟩
        ·intro ρ y W L hw hn hLi hLd hb hd
         refine askQ jPk_st (fun _ _ h=>h) hb ?_
         have E98:=hw 98 6 rfl
         have h6:y 6 = _:=hd 6 rfl
         have E109:=hw 109 17 rfl
         have h17:=hd 17 rfl
         obtain ⟨u,hu1,hu⟩:=h17
         have EC:∀ v,ρ (.const v) = v:=fun v=>hn (.const v) trivial
         refine asked_val (.agg #[.int .i64 1,.int .i64 (f:Int),.bool u]) (want_free rfl) (by simp [execOp,go_sem,E98,h6,E109,EC,hu]) ⟨u,hu1,rfl⟩
        intro y W6 hbW6 hRW6
        have hy15:((fixR fun v => ∃ x:Int,v = .int .i64 x ∧ 0 ≤ x)).r (y 15) W6:=hRW6 15 (by decide)
        have hy16:((fixR fun v => ∃ u,v = .bool u)).r (y 16) W6:=hRW6 16 (by decide)
        have hy17:((fixR fun v => ∃ u,(u = true → true = true) ∧ v = .bool u)).r (y 17) W6:=hRW6 17 (by decide)
        have hy18:((fixR fun v => ∃ u,(u = true → true = true) ∧ v = .agg #[.int .i64 1,.int .i64 (f:Int),.bool u])).r (y 18) W6:=hRW6 18 (by decide)
        clear hRW6
        obtain ⟨a6,c6,l6,h6,s6,_⟩:=hbW6
        obtain ⟨u,hu1,hu⟩:=hy18
        rw [hu]
        clear hu
        obtain ⟨gT',oT',curT,hab',hgTB,hgT,hgTs,_,hgTw⟩:=MkO.ent (S:=S5.lst a6 c6 l6) h6 (p:=p) (n:=n) hpT5.out hn (hTn5.out _ rfl)
        have e9:(some (⟨gT',oT',none⟩:Addr)) = some ⟨gT,oT,none⟩:=hab'.symm.trans hab
        cases e9
        have hpTi:(p:Int) < (S5.T.length:Int):=by have:=hpT5.out; omega
        have hni:(n:Int) < 64:=by omega
        have hgTw':=Lib.hid hgTw
        have s6:=s5.trans s6
        clear hgTw hab' h5 s5
        go_wp2_with (refine wpList_stv rfl _ _ _ rfl gT (oT + p * 192 + n * 3) _ (enL ⟨1,f,u⟩) rfl rfl rfl _ _ hgT (by rw [enL_len]; exact hgTs) (by kernel_rfl) (one_toList (enC_one _)) ?_)
        intro w7 hb7 hg7
        have h7:=hgTw'.out w7 ⟨1,f,u⟩ hb7 hg7
        have s7:=s6.put (H':={ S5.lst a6 c6 l6 with T:=setL (S5.lst a6 c6 l6).T p n ⟨1,f,u⟩ }) hg7 (.inr (by simp only [klM,MW.lst,hab]; simp [oB]; right; right; right; right; right; right; right; right; rfl)) (fun x hx => .inl hx)
        clear hgT hb7 hg7 h6 s6
        go_wp2
        refine bodyPost_ret (v:=.tuple #[]) (by simp [results,go_sem,Try.results76]) rfl ?_
        exact ⟨_,rfl,h7,s7,⟨hK5.out.sp,hK5.out.fi,hK5.out.ct,hK5.out.dk,hK5.out.fl,hK5.out.sl⟩,hbdu.out u (fun h=>by first | exact trivial | exact ⟨rfl,rfl⟩ | exact absurd (hu1 h) (by decide) | simp),hent5.out _⟩
       | false=>
        skip
        refine wp_growPQ 20 [_,_,_,.v (.slice (some ⟨gT,oT,none⟩) S5.T.length S5.cb),_,.v (.int .i64 (n:Int)),_,_,.v (.bool true),_,_,.v (.bool false),_,_,_,_,_,.r 17 ((fixR fun v => ∃ u,(u = true → false = true) ∧ v = .bool u)),.r 18 ((fixR fun v => ∃ u,(u = true → false = true) ∧ v = .agg #[.int .i64 1,.int .i64 (f:Int),.bool u])),_] (jPk S5 B b w5 [(w.heap.size,#[.bool true,.bool grd,.bool false,.bool true,.int .i64 (F:Int),.int .i64 (I:Int)],106)]) jPk_st (fun _=>⟨S5.al,S5.cl,S5.l,h5,MS.refl _ _ _,by simpa using ⟨bx5,hn5.out⟩⟩) (Qk jPk_st rfl (Qk jPk_st rfl (Qf jPk_st b 12 rfl rfl (all_cons ?_ (Qk jPk_st rfl (Qk jPk_st rfl (Qk jPk_st rfl (Qf jPk_st w.heap.size 3 rfl rfl (all_cons ?_ (Qk jPk_st rfl (Qf jPk_st w.heap.size 2 rfl rfl (all_cons ?_ (Qk jPk_st rfl (Qk jPk_st rfl (Qk jPk_st rfl (Qk jPk_st rfl (Qk jPk_st rfl (all_cons ?_ (all_cons ?_ (Qr jPk_st (.pointer (some ⟨gT,oT + p * 192,none⟩)) (fun ρ y W hk=>(run_idx rfl (kx_at rfl hk) (kx_at rfl hk) hpT5.out Try.underlying87 ents_size)) rfl rfl (all_nil))))))))))))))))))))) (fun _=>rfl) rfl ?_
        ·intro ρ y W L hw hn hLi hLd hb hd
         refine askQ jPk_st (fun _ _ h=>h) hb ?_
         have E94:=hw 94 2 rfl
         have h2:y 2 = _:=hd 2 rfl
         obtain ⟨a,c,l,m1,m2,m3⟩:=hb
         refine asked_val (.slice (some ⟨gT,oT,none⟩) S5.T.length S5.cb) (want_free rfl) (by simp [execOp,go_sem,E94,h2,m1.blk.cell,mkC,MW.lst,hab]) rfl
        ·intro ρ y W L hw hn hLi hLd hb hd
         refine askQ jPk_st (fun _ _ h=>h) hb ?_
         have E99:=hw 99 7 rfl
         have h7:y 7 = _:=hd 7 rfl
         obtain ⟨a,c,l,m1,m2,m3⟩:=hb
         have m3:=(m3 _ (List.mem_singleton.2 rfl)).1
         refine asked_val (.bool true) (want_free rfl) (by simp [execOp,go_sem,E99,h7,m3.cell]) rfl
        ·intro ρ y W L hw hn hLi hLd hb hd
         refine askQ jPk_st (fun _ _ h=>h) hb ?_
         have E102:=hw 102 10 rfl
         have h10:y 10 = _:=hd 10 rfl
         obtain ⟨a,c,l,m1,m2,m3⟩:=hb
         have m3:=(m3 _ (List.mem_singleton.2 rfl)).1
         refine asked_val (.bool false) (want_at 9 101 true true rfl rfl ((hw 101 9 rfl).trans (hd 9 rfl))) (by simp [execOp,go_sem,E102,h10,m3.cell]) rfl
        ·intro ρ y W L hw hn hLi hLd hb hd
         refine askQ jPk_st (fun _ _ h=>h) hb ?_
         have E105:=hw 105 13 rfl
         have h13:y 13 = _:=hd 13 rfl
         have E108:=hw 108 16 rfl
         have h16:y 16 = _:=hd 16 rfl
         refine asked_val (.bool false) (want_free rfl) (run_pick rfl (E105.trans h13) (by exact (hn (.const _) trivial).trans rfl)) ⟨false,fun h=>(by cases h),rfl⟩
        ·intro ρ y W L hw hn hLi hLd hb hd
         refine askQ jPk_st (fun _ _ h=>h) hb ?_
         have E98:=hw 98 6 rfl
         have h6:y 6 = _:=hd 6 rfl
         have E109:=hw 109 17 rfl
         have h17:=hd 17 rfl
         obtain ⟨u,hu1,hu⟩:=h17
         have EC:∀ v,ρ (.const v) = v:=fun v=>hn (.const v) trivial
         refine asked_val (.agg #[.int .i64 1,.int .i64 (f:Int),.bool u]) (want_free rfl) (by simp [execOp,go_sem,E98,h6,E109,EC,hu]) ⟨u,hu1,rfl⟩
        intro y W6 hbW6 hRW6
        have hy17:((fixR fun v => ∃ u,(u = true → false = true) ∧ v = .bool u)).r (y 17) W6:=hRW6 17 (by decide)
        have hy18:((fixR fun v => ∃ u,(u = true → false = true) ∧ v = .agg #[.int .i64 1,.int .i64 (f:Int),.bool u])).r (y 18) W6:=hRW6 18 (by decide)
        clear hRW6
        obtain ⟨a6,c6,l6,h6,s6,_⟩:=hbW6
        obtain ⟨u,hu1,hu⟩:=hy18
        rw [hu]
        clear hu
        obtain ⟨gT',oT',curT,hab',hgTB,hgT,hgTs,_,hgTw⟩:=MkO.ent (S:=S5.lst a6 c6 l6) h6 (p:=p) (n:=n) hpT5.out hn (hTn5.out _ rfl)
        have e9:(some (⟨gT',oT',none⟩:Addr)) = some ⟨gT,oT,none⟩:=hab'.symm.trans hab
        cases e9
        have hpTi:(p:Int) < (S5.T.length:Int):=by have:=hpT5.out; omega
        have hni:(n:Int) < 64:=by omega
        have hgTw':=Lib.hid hgTw
        have s6:=s5.trans s6
        clear hgTw hab' h5 s5
        go_wp2_with (refine wpList_stv rfl _ _ _ rfl gT (oT + p * 192 + n * 3) _ (enL ⟨1,f,u⟩) rfl rfl rfl _ _ hgT (by rw [enL_len]; exact hgTs) (by kernel_rfl) (one_toList (enC_one _)) ?_)
        intro w7 hb7 hg7
        have h7:=hgTw'.out w7 ⟨1,f,u⟩ hb7 hg7
        have s7:=s6.put (H':={ S5.lst a6 c6 l6 with T:=setL (S5.lst a6 c6 l6).T p n ⟨1,f,u⟩ }) hg7 (.inr (by simp only [klM,MW.lst,hab]; simp [oB]; right; right; right; right; right; right; right; right; rfl)) (fun x hx => .inl hx)
        clear hgT hb7 hg7 h6 s6
        go_wp2
        refine bodyPost_ret (v:=.tuple #[]) (by simp [results,go_sem,Try.results76]) rfl ?_
        exact ⟨_,rfl,h7,s7,⟨hK5.out.sp,hK5.out.fi,hK5.out.ct,hK5.out.dk,hK5.out.fl,hK5.out.sl⟩,hbdu.out u (fun h=>by first | exact trivial | exact ⟨rfl,rfl⟩ | exact absurd (hu1 h) (by decide) | simp),hent5.out _⟩
      | false=>
       skip
       refine wp_growPQ 20 [_,_,_,.v (.slice (some ⟨gT,oT,none⟩) S5.T.length S5.cb),_,.v (.int .i64 (n:Int)),_,_,.v (.bool false),_,_,_,_,_,_,_,_,.r 17 ((fixR fun v => ∃ u,(u = true → false = true) ∧ v = .bool u)),.r 18 ((fixR fun v => ∃ u,(u = true → false = true) ∧ v = .agg #[.int .i64 1,.int .i64 (f:Int),.bool u])),_] (jPk S5 B b w5 [(w.heap.size,#[.bool true,.bool grd,.bool gwr,.bool false,.int .i64 (F:Int),.int .i64 (I:Int)],106)]) jPk_st (fun _=>⟨S5.al,S5.cl,S5.l,h5,MS.refl _ _ _,by simpa using ⟨bx5,hn5.out⟩⟩) (Qk jPk_st rfl (Qk jPk_st rfl (Qf jPk_st b 12 rfl rfl (all_cons ?_ (Qk jPk_st rfl (Qk jPk_st rfl (Qk jPk_st rfl (Qf jPk_st w.heap.size 3 rfl rfl (all_cons ?_ (Qk jPk_st rfl (Qk jPk_st rfl (Qk jPk_st rfl (Qk jPk_st rfl (Qk jPk_st rfl (Qk jPk_st rfl (Qk jPk_st rfl (Qk jPk_st rfl (all_cons ?_ (all_cons ?_ (Qr jPk_st (.pointer (some ⟨gT,oT + p * 192,none⟩)) (fun ρ y W hk=>(run_idx rfl (kx_at rfl hk) (kx_at rfl hk) hpT5.out Try.underlying87 ents_size)) rfl rfl (all_nil))))))))))))))))))))) (fun _=>rfl) rfl ?_
       ·intro ρ y W L hw hn hLi hLd hb hd
        refine askQ jPk_st (fun _ _ h=>h) hb ?_
        have E94:=hw 94 2 rfl
        have h2:y 2 = _:=hd 2 rfl
        obtain ⟨a,c,l,m1,m2,m3⟩:=hb
        refine asked_val (.slice (some ⟨gT,oT,none⟩) S5.T.length S5.cb) (want_free rfl) (by simp [execOp,go_sem,E94,h2,m1.blk.cell,mkC,MW.lst,hab]) rfl
       ·intro ρ y W L hw hn hLi hLd hb hd
        refine askQ jPk_st (fun _ _ h=>h) hb ?_
        have E99:=hw 99 7 rfl
        have h7:y 7 = _:=hd 7 rfl
        obtain ⟨a,c,l,m1,m2,m3⟩:=hb
        have m3:=(m3 _ (List.mem_singleton.2 rfl)).1
        refine asked_val (.bool false) (want_free rfl) (by simp [execOp,go_sem,E99,h7,m3.cell]) rfl
       ·intro ρ y W L hw hn hLi hLd hb hd
        refine askQ jPk_st (fun _ _ h=>h) hb ?_
        have E105:=hw 105 13 rfl
        have h13:y 13 = _:=hd 13 rfl
        have E108:=hw 108 16 rfl
        have h16:y 16 = _:=hd 16 rfl
        refine asked_val (.bool false) (want_free rfl) (run_pick rfl (E105.trans h13) (by exact (hn (.const _) trivial).trans rfl)) ⟨false,fun h=>(by cases h),rfl⟩
       ·intro ρ y W L hw hn hLi hLd hb hd
        refine askQ jPk_st (fun _ _ h=>h) hb ?_
        have E98:=hw 98 6 rfl
        have h6:y 6 = _:=hd 6 rfl
        have E109:=hw 109 17 rfl
        have h17:=hd 17 rfl
        obtain ⟨u,hu1,hu⟩:=h17
        have EC:∀ v,ρ (.const v) = v:=fun v=>hn (.const v) trivial
        refine asked_val (.agg #[.int .i64 1,.int .i64 (f:Int),.bool u]) (want_free rfl) (by simp [execOp,go_sem,E98,h6,E109,EC,hu]) ⟨u,hu1,rfl⟩
       intro y W6 hbW6 hRW6
       have hy17:((fixR fun v => ∃ u,(u = true → false = true) ∧ v = .bool u)).r (y 17) W6:=hRW6 17 (by decide)
       have hy18:((fixR fun v => ∃ u,(u = true → false = true) ∧ v = .agg #[.int .i64 1,.int .i64 (f:Int),.bool u])).r (y 18) W6:=hRW6 18 (by decide)
       clear hRW6
       obtain ⟨a6,c6,l6,h6,s6,_⟩:=hbW6
       obtain ⟨u,hu1,hu⟩:=hy18
       rw [hu]
       clear hu
       obtain ⟨gT',oT',curT,hab',hgTB,hgT,hgTs,_,hgTw⟩:=MkO.ent (S:=S5.lst a6 c6 l6) h6 (p:=p) (n:=n) hpT5.out hn (hTn5.out _ rfl)
       have e9:(some (⟨gT',oT',none⟩:Addr)) = some ⟨gT,oT,none⟩:=hab'.symm.trans hab
       cases e9
       have hpTi:(p:Int) < (S5.T.length:Int):=by have:=hpT5.out; omega
       have hni:(n:Int) < 64:=by omega
       have hgTw':=Lib.hid hgTw
       have s6:=s5.trans s6
       clear hgTw hab' h5 s5
       go_wp2_with (refine wpList_stv rfl _ _ _ rfl gT (oT + p * 192 + n * 3) _ (enL ⟨1,f,u⟩) rfl rfl rfl _ _ hgT (by rw [enL_len]; exact hgTs) (by kernel_rfl) (one_toList (enC_one _)) ?_)
       intro w7 hb7 hg7
       have h7:=hgTw'.out w7 ⟨1,f,u⟩ hb7 hg7
       have s7:=s6.put (H':={ S5.lst a6 c6 l6 with T:=setL (S5.lst a6 c6 l6).T p n ⟨1,f,u⟩ }) hg7 (.inr (by simp only [klM,MW.lst,hab]; simp [oB]; right; right; right; right; right; right; right; right; rfl)) (fun x hx => .inl hx)
       clear hgT hb7 hg7 h6 s6
       go_wp2
       refine bodyPost_ret (v:=.tuple #[]) (by simp [results,go_sem,Try.results76]) rfl ?_
       exact ⟨_,rfl,h7,s7,⟨hK5.out.sp,hK5.out.fi,hK5.out.ct,hK5.out.dk,hK5.out.fl,hK5.out.sl⟩,hbdu.out u (fun h=>by first | exact trivial | exact ⟨rfl,rfl⟩ | exact absurd (hu1 h) (by decide) | simp),hent5.out _⟩
   ·rw [decide_eq_false hF]
    obtain rfl:gsh = false:=by
     cases gsh with
     | false=>rfl
     | true=>exact absurd ⟨hsh rfl,.inl rfl⟩ hF
    have hfew:=Lib.hid hd'.out.few
    have hsl60:S.H.sl.length ≤ 60:=hfew.out.2.1
    have hc:=h2.blk.cell
    unfold mkC at hc
    dsimp only [MW.lst] at hc
    clear hF hsh
    go_upto_region 12 with (fail)
    go_cut [113] (fun s113 wx=>s113 = .bool (decide (x = 2 ∧ 0 < S.H.sl.length)) ∧ wx = w2)
    case first=>
     by_cases hx2:x = 2
     ·have hx2b:(x == 2) = true:=by simp [hx2]
      have hx2':=Lib.hid hx2
      clear hx2
      by_cases hsl:0 < S.H.sl.length
      ·have hsli:(0:Int) < (S.H.sl.length:Int):=by omega
       go_wp2
       go_meet
       case rel=>exact ⟨by rw [decide_eq_true ⟨hx2'.out,hsl⟩],rfl⟩
      ·have hsli:¬ (0:Int) < (S.H.sl.length:Int):=by omega
       go_wp2
       go_meet
       case rel=>exact ⟨by rw [decide_eq_false (fun h=>hsl h.2)],rfl⟩
     ·have hx2b:(x == 2) = false:=by simp [hx2]
      go_wp2
      go_meet
      case rel=>exact ⟨by rw [decide_eq_false (fun h=>hx2 h.1)],rfl⟩
    case rest=>
     obtain ⟨rfl,hwc⟩:=hcut
     subst wc
     by_cases hS:x = 2 ∧ 0 < S.H.sl.length
     ·rw [decide_eq_true hS]
      have hsl:=hS.2
      clear hS
      go_wp2_with fail
      refine (rpick_any _ _ B b _ h2 (by omega)).mono ?_
      rintro r w3 ⟨y3,a3,c3,l3,rfl,h3,s3,hy3,_⟩
      rw [lst_two] at h3 s3
      have s3:=s2.trans s3
      obtain ⟨s0,rfl⟩:=Int.eq_ofNat_of_zero_le hy3.1
      have hs0:s0 < S.H.sl.length:=by omega
      have hs0i:(s0:Int) < (S.H.sl.length:Int):=by omega
      clear h2 s2 bx2 hcx hc hy3
      have hc:=h3.blk.cell
      unfold mkC at hc
      dsimp only [MW.lst] at hc
      obtain ⟨gs,off,cap,cur,hv,hgB,hgk,hgs,hgc,hgw⟩:=Own.put (enc:=fun x=>[inV x]) (sz:=1) (l:=S.H.sl) (fun _=>rfl) Nat.one_pos (by rw [flat_one]; exact h3.ma.sl) s0 hs0
      have has:S.H.asl = some ⟨gs,off,none⟩:=(Value.slice.inj hv).1
      rw [has] at hc
      rw [Nat.mul_one] at hgs hgc hgw
      have c0:w3.cell? ⟨gs,off + s0,none⟩ = some (.int .i64 S.H.sl[s0]):=hgc 0 _ rfl
      have hz0:Hid (slN S.H.ma s0 = S.H.sl[s0]):=Lib.hid (by
       unfold slN
       show S.H.sl.getD s0 0 = _
       rw [List.getD_eq_getElem?_getD,List.getElem?_eq_getElem hs0]; rfl)
      have hgw':=Lib.hid hgw
      clear hv hgw hgc
      generalize S.H.sl[s0] = v0 at c0 hz0
      by_cases hz:v0 = 0
      ·subst hz
       go_wp2_with (refine wpList_stv rfl _ _ _ rfl gs (off + s0) _ [.int .i64 1] rfl rfl rfl _ _ hgk (by show off + s0 + 1 ≤ cur.size; omega) (by kernel_rfl) (fun u hu=>by cases List.mem_singleton.1 hu; rfl) ?_)
       intro w4 hb4 hg4
       have hga:oB (S.lst a3 c3 l3).H.asl = some gs:=by show oB S.H.asl = some gs; rw [has]; rfl
       have h4:MkO w4 B b { S.lst a3 c3 l3 with H:={ S.H with sl:=S.H.sl.set s0 1 } }:=h3.putS hgk hgB hga hg4 (sl:=S.H.sl.set s0 1) (by simp [MW.lst]) (by
        have:=hgw'.out w4 1 hb4
        rw [flat_one] at this
        simpa [MW.lst] using this)
       have s4:=s3.put (H':={ S.lst a3 c3 l3 with H:={ S.H with sl:=S.H.sl.set s0 1 } }) hg4 (.inr (by simp [klM,hga])) (fun x hx => .inl hx)
       have hswl:S.H.sw.blocks.length = S.H.sl.length:=hfew.out.2.2.2.2.2.2.2
       have hK4:Hid (Kep S { S.lst a3 c3 l3 with H:={ S.H with sl:=S.H.sl.set s0 1 } }):=Lib.hid ⟨rfl,rfl,rfl,rfl,rfl,List.length_set⟩
       have hTl:S.T.length = S.H.sp.length:=by have:=hd'.out.ok.len; rw [this]; exact List.length_map _
       have hpT:p < S.T.length:=by omega
       have h64:(lstT S.T p).length = 64:=hd'.out.ok.l64 (by rw [← hd'.out.ok.len]; exact hpT)
       have hbdu:Hid (∀ P,Bd { S.H.ma with sl:=S.H.sl.set s0 1,sw:=⟨S.H.sw.blocks.set s0 P,S.H.sw.queue⟩ } (setL S.T p n ⟨2,s0,false⟩)):=Lib.hid fun P=>
        hd'.out.slotE (P:=P) (by rw [← hd'.out.ok.len]; exact hpT) hn h0'.out hs0 hz0.out hg'.out rfl
       have hent5:Hid (∀ x q j,¬ (q = p ∧ j = n) → entT (setL S.T p n x) q j = entT S.T q j):=Lib.hid fun x q j hne=>by
        rw [entT_set hd'.out.ok (by rw [← hd'.out.ok.len]; exact hpT) hn,if_neg hne]
       obtain ⟨gw,ow,capw,curw,hvw,hgwB,_,_,_,_⟩:=h4.ma.sw.b.put pgL_len (by decide) s0 (by show s0 < S.H.sw.blocks.length; omega)
       have haw:S.H.wb = some ⟨gw,ow,none⟩:=(Value.slice.inj hvw).1
       generalize hS4:({ S.lst a3 c3 l3 with H:={ S.H with sl:=S.H.sl.set s0 1 } }:MW) = S4 at h4 s4 hK4
       have haw:S4.H.wb = some ⟨gw,ow,none⟩:=by rw [← hS4]; exact haw
       have hsw4:S4.H.sw = S.H.sw:=by rw [← hS4]
       clear h3 s3 hb4 hg4 hgk hgs c0 hc has hga hvw
       go_upto_region 16 with (fail)
       refine wp_growPQ 9 [_,_,_,_,_,.v (.slice (some ⟨gw,ow,none⟩) S4.H.sw.blocks.length S4.H.cwb),.v (.int .i64 (s0:Int)),_,.r 8 ((fixR fun v => ∃ P,v = .agg (pgC P)))] (jPk S4 B b w4 []) jPk_st (fun _=>⟨S4.al,S4.cl,S4.l,h4,MS.refl _ _ _,fun t ht=>(by cases ht)⟩) (Qk jPk_st rfl (Qk jPk_st rfl (Qf jPk_st b 1 rfl rfl (Qf jPk_st b 4 rfl rfl (Qf jPk_st b 4 rfl rfl (all_cons ?_ (Qk jPk_st rfl (Qk jPk_st rfl (all_cons ?_ (all_nil)))))))))) (fun _=>rfl) rfl ?_
       ·intro ρ y W L hw hn hLi hLd hb hd
        refine askQ jPk_st (fun _ _ h=>h) hb ?_
        have E153:=hw 153 4 rfl
        have h4:y 4 = _:=hd 4 rfl
        obtain ⟨a,c,l,m1,m2,m3⟩:=hb
        refine asked_val (.slice (some ⟨gw,ow,none⟩) S4.H.sw.blocks.length S4.H.cwb) (want_free rfl) (by simp [execOp,go_sem,E153,h4,m1.blk.cell,mkC,MW.lst,haw]) rfl
       ·intro ρ y W L hw hn hLi hLd hb hd; have E156:=hw 156 7 rfl; have h7:y 7 = _:=hd 7 rfl
        have EF:∀ f,ρ (.func f) = .func (.func f) #[] #[]:=fun f=>hn (.func f) trivial
        refine asked_callQ _ _ (want_free rfl) (run_call rfl (EF _) Try.func31 (by kernel_rfl) (by kernel_rfl) (by simp only [List.map_toArray,List.map_cons,List.map_nil,E156,h7,EF]; rfl)) ?_
        exact jPk_page hb fun P _=>⟨P,rfl⟩
       intro y W6 hbW6 hRW6
       have hy8:((fixR fun v => ∃ P,v = .agg (pgC P))).r (y 8) W6:=hRW6 8 (by decide)
       clear hRW6
       obtain ⟨a6,c6,l6,h6,s6,_⟩:=hbW6
       obtain ⟨P,hP⟩:=hy8
       rw [hP]
       clear hP
       have s6:=s4.trans s6
       obtain ⟨gw',ow',capw',curw',hvw',hgwB',hgwk,hgws,_,hgww⟩:=h6.ma.sw.b.put pgL_len (by decide) s0 (by show s0 < S4.H.sw.blocks.length; rw [hsw4]; omega)
       have e9:(some (⟨gw',ow',none⟩:Addr)) = some ⟨gw,ow,none⟩:=(Value.slice.inj hvw').1.symm.trans haw
       cases e9
       have hsi:(s0:Int) < (S4.H.sw.blocks.length:Int):=by rw [hsw4]; omega
       have hgww':=Lib.hid hgww
       clear hvw' hgww h4 s4
       go_wp2_with (refine wpList_stv rfl _ _ _ rfl gw (ow + s0 * 8) _ (pgL P) rfl rfl rfl _ _ hgwk (by rw [pgL_len]; exact hgws) (by kernel_rfl) (one_toList (pgC_one P)) ?_)
       intro w7 hb7 hg7
       have hgaw:oB (S4.lst a6 c6 l6).H.wb = some gw:=by show oB S4.H.wb = some gw; rw [haw]; rfl
       have h7:MkO w7 B b { S4.lst a6 c6 l6 with H:={ S4.H with sw:=⟨S4.H.sw.blocks.set s0 P,S4.H.sw.queue⟩ } }:=h6.putW hgwk hgwB' hgaw hg7 (l:=S4.H.sw.blocks.set s0 P) (by simp [MW.lst]) (by simpa [MW.lst] using hgww'.out w7 P hb7)
       have s7:=s6.put (H':={ S4.lst a6 c6 l6 with H:={ S4.H with sw:=⟨S4.H.sw.blocks.set s0 P,S4.H.sw.queue⟩ } }) hg7 (.inr (by simp [klM,hgaw])) (fun x hx => .inl hx)
       clear h6 s6 hgwk hb7 hg7 hgws hsi
       subst hS4
       dsimp only [MW.lst] at h7 s7
       obtain ⟨gT,oT,curT,hab,hgTB,hgT,hgTs,_,hgTw⟩:=MkO.ent h7 (p:=p) (n:=n) hpT hn h64
       have hab:S.ab = some ⟨gT,oT,none⟩:=hab
       have hc:=h7.blk.cell
       unfold mkC at hc
       dsimp only at hc
       rw [hab] at hc
       have hpTi:(p:Int) < (S.T.length:Int):=by omega
       have hni:(n:Int) < 64:=by omega
       have hgTw':=Lib.hid hgTw
       clear hgTw
       go_wp2_with (refine wpList_stv rfl _ _ _ rfl gT (oT + p * 192 + n * 3) _ (enL ⟨2,s0,false⟩) rfl rfl rfl _ _ hgT (by rw [enL_len]; exact hgTs) (by kernel_rfl) (one_toList (enC_one _)) ?_)
       intro w8 hb8 hg8
       have h8:=hgTw'.out w8 ⟨2,s0,false⟩ hb8 hg8
       have s8:=s7.put hg8 (.inr (by simp only [klM,hab]; simp [oB]; right; right; right; right; right; right; right; right; rfl)) (fun x hx => .inl hx) (H':=_)
       clear h7 s7 hc hb8 hg8 hgT
       go_wp2
       refine bodyPost_ret (v:=.tuple #[]) (by simp [results,go_sem,Try.results76]) rfl ?_
       exact ⟨_,rfl,h8,s8.same rfl,⟨rfl,rfl,rfl,rfl,rfl,List.length_set⟩,hbdu.out P,hent5.out _⟩
      ·go_wp2
       refine bodyPost_ret (v:=.tuple #[]) (by simp [results,go_sem,Try.results76]) rfl ?_
       exact ⟨_,rfl,h3,s3,⟨rfl,rfl,rfl,rfl,rfl,rfl⟩,hd'.out,fun _ _ _=>rfl⟩
     ·rw [decide_eq_false hS]
      clear hS hc
      go_wp2_with fail
      refine (rpage_any _ B b _ h2).mono ?_
      rintro r w3 ⟨P,a3,c3,l3,rfl,h3,s3⟩
      rw [lst_two] at h3 s3
      have bx3:=s3.blkN bx2 hn0.out
      have s3:=s2.trans s3
      clear h2 s2 bx2 hcx
      have hcx:=bx3.cell
      unfold pgC
      go_wp2_with fail
      refine (rpick_any _ 2 B b _ h3 (by omega)).mono ?_
      rintro r w4 ⟨y3,a4,c4,l4,rfl,h4,s4,_,_⟩
      rw [lst_two] at h4 s4
      have bx4:=s4.blkN bx3 hn0.out
      have s4:=s3.trans s4
      clear h3 s3 bx3 hcx
      have hcx:=bx4.cell
      go_wp2_with fail
      refine (rframe_any _ ⟨P,1,y3 == 1,false,-1,0⟩ B b _ h4 (by have:=hfew.out.1; show S.H.m.fs.length ≤ 1000; have e:S.H.ma.m.fs.length = S.H.m.fs.length:=rfl; omega)).mono ?_
      rintro r w5 ⟨xf,a5,c5,l5,fs,rfl,h5,s5,hxf⟩
      rw [lst_two] at h5 s5
      have bx5:=s5.blkN bx4 hn0.out
      have hn5:=Lib.hid (s5.not bx4.lt hn0.out)
      have s5:=s4.trans s5
      clear h4 s4 bx4 hcx
      rcases hxf with ⟨rfl,rfl⟩ | ⟨f,rfl,hj,hjr,rfl⟩
      ·go_wp2
       refine bodyPost_ret (v:=.tuple #[]) (by simp [results,go_sem,Try.results76]) rfl ?_
       exact ⟨_,rfl,h5,s5,⟨rfl,rfl,rfl,rfl,rfl,rfl⟩,hd'.out,fun _ _ _=>rfl⟩
      ·have hjl:f < S.H.m.fs.length:=hj
       have hTl:S.T.length = S.H.sp.length:=by have:=hd'.out.ok.len; rw [this]; exact List.length_map _
       have hpT:p < S.T.length:=by omega
       have hbdu:Hid (∀ u:Bool,(u = true → gwr = true) → Bd ((S.lst a5 c5 l5).frs (S.H.m.fs.set f ⟨P,1,y3 == 1,false,-1,0⟩)).H.ma (setL ((S.lst a5 c5 l5).frs (S.H.m.fs.set f ⟨P,1,y3 == 1,false,-1,0⟩)).T p n ⟨1,f,u⟩)):=Lib.hid fun u hu=>
        hd'.out.anonE (X:=⟨P,1,y3 == 1,false,-1,0⟩) (w:=u) (by rw [← hd'.out.ok.len]; exact hpT) hn h0'.out hjl hjr ⟨rfl,rfl,rfl,rfl⟩ hg'.out rfl hu
       have hK5:Hid (Kep S ((S.lst a5 c5 l5).frs (S.H.m.fs.set f ⟨P,1,y3 == 1,false,-1,0⟩))):=Lib.hid ⟨rfl,rfl,rfl,rfl,List.length_set,rfl⟩
       have hent5:Hid (∀ x q j,¬ (q = p ∧ j = n) → entT (setL ((S.lst a5 c5 l5).frs (S.H.m.fs.set f ⟨P,1,y3 == 1,false,-1,0⟩)).T p n x) q j = entT S.T q j):=Lib.hid fun x q j hne=>by
        show entT (setL S.T p n x) q j = _
        rw [entT_set hd'.out.ok (by rw [← hd'.out.ok.len]; exact hpT) hn,if_neg hne]
       have hpT5:Hid (p < ((S.lst a5 c5 l5).frs (S.H.m.fs.set f ⟨P,1,y3 == 1,false,-1,0⟩)).T.length):=Lib.hid hpT
       have hTn5:Hid (∀ S' : MW,S'.T = ((S.lst a5 c5 l5).frs (S.H.m.fs.set f ⟨P,1,y3 == 1,false,-1,0⟩)).T → (lstT S'.T p).length = 64):=Lib.hid fun S' e=>by rw [e]; exact hd'.out.ok.l64 (by rw [← hd'.out.ok.len]; exact hpT)
       have h5:MkO w5 B b ((S.lst a5 c5 l5).frs (S.H.m.fs.set f ⟨P,1,y3 == 1,false,-1,0⟩)):=h5
       have s5:MS w b S w5 ((S.lst a5 c5 l5).frs (S.H.m.fs.set f ⟨P,1,y3 == 1,false,-1,0⟩)):=s5
       have hn5:Hid (¬ kbM b ((S.lst a5 c5 l5).frs (S.H.m.fs.set f ⟨P,1,y3 == 1,false,-1,0⟩)) w.heap.size):=hn5
       have hf0:(0:Int) ≤ (f:Int):=by omega
       clear hj hjr hpT hTl
       generalize (S.lst a5 c5 l5).frs (S.H.m.fs.set f ⟨P,1,y3 == 1,false,-1,0⟩) = S5 at *
       obtain ⟨gT,oT,_,hab,_⟩:=MkO.ent (S:=S5) h5 (p:=p) (n:=n) hpT5.out hn (hTn5.out _ rfl)
       go_upto_region 4 with (fail)
       cases gwr with
       | true=>
        skip
        refine wp_growPQ 16 [_,_,_,.v (.slice (some ⟨gT,oT,none⟩) S5.T.length S5.cb),_,.v (.int .i64 (n:Int)),_,_,.v (.bool true),_,_,.r 11 ((fixR fun v => ∃ x:Int,v = .int .i64 x ∧ 0 ≤ x)),.r 12 ((fixR fun v => ∃ u,v = .bool u)),.r 13 ((fixR fun v => ∃ u,(u = true → true = true) ∧ v = .bool u)),.r 14 ((fixR fun v => ∃ u,(u = true → true = true) ∧ v = .agg #[.int .i64 1,.int .i64 (f:Int),.bool u])),_] (jPk S5 B b w5 [(w.heap.size,#[.bool true,.bool grd,.bool true,.bool false,.int .i64 gfi,.int .i64 (I:Int)],106)]) jPk_st (fun _=>⟨S5.al,S5.cl,S5.l,h5,MS.refl _ _ _,by simpa using ⟨bx5,hn5.out⟩⟩) (Qk jPk_st rfl (Qk jPk_st rfl (Qf jPk_st b 12 rfl rfl (all_cons ?_ (Qk jPk_st rfl (Qk jPk_st rfl (Qk jPk_st rfl (Qf jPk_st w.heap.size 2 rfl rfl (all_cons ?_ (Qk jPk_st rfl (Qk jPk_st rfl (all_cons ?_ (all_cons ?_ (all_cons ?_ (all_cons ?_ (Qr jPk_st (.pointer (some ⟨gT,oT + p * 192,none⟩)) (fun ρ y W hk=>(run_idx rfl (kx_at rfl hk) (kx_at rfl hk) hpT5.out Try.underlying87 ents_size)) rfl rfl (all_nil))))))))))))))))) (fun _=>rfl) rfl ?_
        ·intro ρ y W L hw hn hLi hLd hb hd
         refine askQ jPk_st (fun _ _ h=>h) hb ?_
         have E26:=hw 26 2 rfl
         have h2:y 2 = _:=hd 2 rfl
         obtain ⟨a,c,l,m1,m2,m3⟩:=hb
         refine asked_val (.slice (some ⟨gT,oT,none⟩) S5.T.length S5.cb) (want_free rfl) (by simp [execOp,go_sem,E26,h2,m1.blk.cell,mkC,MW.lst,hab]) rfl
        ·intro ρ y W L hw hn hLi hLd hb hd
         refine askQ jPk_st (fun _ _ h=>h) hb ?_
         have E31:=hw 31 7 rfl
         have h7:y 7 = _:=hd 7 rfl
         obtain ⟨a,c,l,m1,m2,m3⟩:=hb
         have m3:=(m3 _ (List.mem_singleton.2 rfl)).1
         refine asked_val (.bool true) (want_free rfl) (by simp [execOp,go_sem,E31,h7,m3.cell]) rfl
        ·intro ρ y W L hw hn hLi hLd hb hd; have E34:=hw 34 10 rfl; have h10:y 10 = _:=hd 10 rfl
         have EC:∀ v,ρ (.const v) = v:=fun v=>hn (.const v) trivial
         have EF:∀ f,ρ (.func f) = .func (.func f) #[] #[]:=fun f=>hn (.func f) trivial
         refine asked_callQ _ _ (want_at 9 33 true true rfl rfl ((hw 33 9 rfl).trans (hd 9 rfl))) (run_call rfl (EF _) Try.func28 (by kernel_rfl) (by kernel_rfl) (by simp only [List.map_toArray,List.map_cons,List.map_nil,E34,h10,EC,EF]; rfl)) ?_
         exact jPk_pick 2 (by omega) hb fun x h1 _ _ _=>⟨x,rfl,h1⟩
        ·intro ρ y W L hw hn hLi hLd hb hd
         refine askQ jPk_st (fun _ _ h=>h) hb ?_
         have E35:=hw 35 11 rfl
         have h11:=hd 11 rfl
         obtain ⟨x,hx,_⟩:=h11
         refine asked_val _ (want_at 9 33 true true rfl rfl ((hw 33 9 rfl).trans (hd 9 rfl))) (run_bin rfl (E35.trans hx) (hn (.const _) trivial) (by simp [go_sem]; rfl)) ⟨_,rfl⟩
        ·intro ρ y W L hw hn hLi hLd hb hd
         refine askQ jPk_st (fun _ _ h=>h) hb ?_
         have E33:=hw 33 9 rfl
         have h9:y 9 = _:=hd 9 rfl
         have E36:=hw 36 12 rfl
         have h12:=hd 12 rfl
         obtain ⟨u,hu⟩:=h12
         refine asked_val (.bool u) (want_free rfl) (run_pick rfl (E33.trans h9) (by simpa using E36.trans hu)) ⟨_,fun _=>rfl,rfl⟩
        ·intro ρ y W L hw hn hLi hLd hb hd
         refine askQ jPk_st (fun _ _ h=>h) hb ?_
         have E30:=hw 30 6 rfl
         have h6:y 6 = _:=hd 6 rfl
         have E37:=hw 37 13 rfl
         have h13:=hd 13 rfl
         obtain ⟨u,hu1,hu⟩:=h13
         have EC:∀ v,ρ (.const v) = v:=fun v=>hn (.const v) trivial
         refine asked_val (.agg #[.int .i64 1,.int .i64 (f:Int),.bool u]) (want_free rfl) (by simp [execOp,go_sem,E30,h6,E37,EC,hu]) ⟨u,hu1,rfl⟩
        intro y W6 hbW6 hRW6
        have hy11:((fixR fun v => ∃ x:Int,v = .int .i64 x ∧ 0 ≤ x)).r (y 11) W6:=hRW6 11 (by decide)
        have hy12:((fixR fun v => ∃ u,v = .bool u)).r (y 12) W6:=hRW6 12 (by decide)
        have hy13:((fixR fun v => ∃ u,(u = true → true = true) ∧ v = .bool u)).r (y 13) W6:=hRW6 13 (by decide)
        have hy14:((fixR fun v => ∃ u,(u = true → true = true) ∧ v = .agg #[.int .i64 1,.int .i64 (f:Int),.bool u])).r (y 14) W6:=hRW6 14 (by decide)
        clear hRW6
        obtain ⟨a6,c6,l6,h6,s6,_⟩:=hbW6
        obtain ⟨u,hu1,hu⟩:=hy14
        rw [hu]
        clear hu
        obtain ⟨gT',oT',curT,hab',hgTB,hgT,hgTs,_,hgTw⟩:=MkO.ent (S:=S5.lst a6 c6 l6) h6 (p:=p) (n:=n) hpT5.out hn (hTn5.out _ rfl)
        have e9:(some (⟨gT',oT',none⟩:Addr)) = some ⟨gT,oT,none⟩:=hab'.symm.trans hab
        cases e9
        have hpTi:(p:Int) < (S5.T.length:Int):=by have:=hpT5.out; omega
        have hni:(n:Int) < 64:=by omega
        have hgTw':=Lib.hid hgTw
        have s6:=s5.trans s6
        clear hgTw hab' h5 s5
        go_wp2_with (refine wpList_stv rfl _ _ _ rfl gT (oT + p * 192 + n * 3) _ (enL ⟨1,f,u⟩) rfl rfl rfl _ _ hgT (by rw [enL_len]; exact hgTs) (by kernel_rfl) (one_toList (enC_one _)) ?_)
        intro w7 hb7 hg7
        have h7:=hgTw'.out w7 ⟨1,f,u⟩ hb7 hg7
        have s7:=s6.put (H':={ S5.lst a6 c6 l6 with T:=setL (S5.lst a6 c6 l6).T p n ⟨1,f,u⟩ }) hg7 (.inr (by simp only [klM,MW.lst,hab]; simp [oB]; right; right; right; right; right; right; right; right; rfl)) (fun x hx => .inl hx)
        clear hgT hb7 hg7 h6 s6
        go_wp2
        refine bodyPost_ret (v:=.tuple #[]) (by simp [results,go_sem,Try.results76]) rfl ?_
        exact ⟨_,rfl,h7,s7,⟨hK5.out.sp,hK5.out.fi,hK5.out.ct,hK5.out.dk,hK5.out.fl,hK5.out.sl⟩,hbdu.out u (fun h=>by first | exact trivial | exact ⟨rfl,rfl⟩ | exact absurd (hu1 h) (by decide) | simp),hent5.out _⟩
       | false=>
        skip
        refine wp_growPQ 16 [_,_,_,.v (.slice (some ⟨gT,oT,none⟩) S5.T.length S5.cb),_,.v (.int .i64 (n:Int)),_,_,.v (.bool false),_,_,_,_,.r 13 ((fixR fun v => ∃ u,(u = true → false = true) ∧ v = .bool u)),.r 14 ((fixR fun v => ∃ u,(u = true → false = true) ∧ v = .agg #[.int .i64 1,.int .i64 (f:Int),.bool u])),_] (jPk S5 B b w5 [(w.heap.size,#[.bool true,.bool grd,.bool false,.bool false,.int .i64 gfi,.int .i64 (I:Int)],106)]) jPk_st (fun _=>⟨S5.al,S5.cl,S5.l,h5,MS.refl _ _ _,by simpa using ⟨bx5,hn5.out⟩⟩) (Qk jPk_st rfl (Qk jPk_st rfl (Qf jPk_st b 12 rfl rfl (all_cons ?_ (Qk jPk_st rfl (Qk jPk_st rfl (Qk jPk_st rfl (Qf jPk_st w.heap.size 2 rfl rfl (all_cons ?_ (Qk jPk_st rfl (Qk jPk_st rfl (Qk jPk_st rfl (Qk jPk_st rfl (all_cons ?_ (all_cons ?_ (Qr jPk_st (.pointer (some ⟨gT,oT + p * 192,none⟩)) (fun ρ y W hk=>(run_idx rfl (kx_at rfl hk) (kx_at rfl hk) hpT5.out Try.underlying87 ents_size)) rfl rfl (all_nil))))))))))))))))) (fun _=>rfl) rfl ?_
        ·intro ρ y W L hw hn hLi hLd hb hd
         refine askQ jPk_st (fun _ _ h=>h) hb ?_
         have E26:=hw 26 2 rfl
         have h2:y 2 = _:=hd 2 rfl
         obtain ⟨a,c,l,m1,m2,m3⟩:=hb
         refine asked_val (.slice (some ⟨gT,oT,none⟩) S5.T.length S5.cb) (want_free rfl) (by simp [execOp,go_sem,E26,h2,m1.blk.cell,mkC,MW.lst,hab]) rfl
        ·intro ρ y W L hw hn hLi hLd hb hd
         refine askQ jPk_st (fun _ _ h=>h) hb ?_
         have E31:=hw 31 7 rfl
         have h7:y 7 = _:=hd 7 rfl
         obtain ⟨a,c,l,m1,m2,m3⟩:=hb
         have m3:=(m3 _ (List.mem_singleton.2 rfl)).1
         refine asked_val (.bool false) (want_free rfl) (by simp [execOp,go_sem,E31,h7,m3.cell]) rfl
        ·intro ρ y W L hw hn hLi hLd hb hd
         refine askQ jPk_st (fun _ _ h=>h) hb ?_
         have E33:=hw 33 9 rfl
         have h9:y 9 = _:=hd 9 rfl
         have E36:=hw 36 12 rfl
         have h12:y 12 = _:=hd 12 rfl
         refine asked_val (.bool false) (want_free rfl) (run_pick rfl (E33.trans h9) (by exact (hn (.const _) trivial).trans rfl)) ⟨false,fun h=>(by cases h),rfl⟩
        ·intro ρ y W L hw hn hLi hLd hb hd
         refine askQ jPk_st (fun _ _ h=>h) hb ?_
         have E30:=hw 30 6 rfl
         have h6:y 6 = _:=hd 6 rfl
         have E37:=hw 37 13 rfl
         have h13:=hd 13 rfl
         obtain ⟨u,hu1,hu⟩:=h13
         have EC:∀ v,ρ (.const v) = v:=fun v=>hn (.const v) trivial
         refine asked_val (.agg #[.int .i64 1,.int .i64 (f:Int),.bool u]) (want_free rfl) (by simp [execOp,go_sem,E30,h6,E37,EC,hu]) ⟨u,hu1,rfl⟩
        intro y W6 hbW6 hRW6
        have hy13:((fixR fun v => ∃ u,(u = true → false = true) ∧ v = .bool u)).r (y 13) W6:=hRW6 13 (by decide)
        have hy14:((fixR fun v => ∃ u,(u = true → false = true) ∧ v = .agg #[.int .i64 1,.int .i64 (f:Int),.bool u])).r (y 14) W6:=hRW6 14 (by decide)
        clear hRW6
        obtain ⟨a6,c6,l6,h6,s6,_⟩:=hbW6
        obtain ⟨u,hu1,hu⟩:=hy14
        rw [hu]
        clear hu
        obtain ⟨gT',oT',curT,hab',hgTB,hgT,hgTs,_,hgTw⟩:=MkO.ent (S:=S5.lst a6 c6 l6) h6 (p:=p) (n:=n) hpT5.out hn (hTn5.out _ rfl)
        have e9:(some (⟨gT',oT',none⟩:Addr)) = some ⟨gT,oT,none⟩:=hab'.symm.trans hab
        cases e9
        have hpTi:(p:Int) < (S5.T.length:Int):=by have:=hpT5.out; omega
        have hni:(n:Int) < 64:=by omega
        have hgTw':=Lib.hid hgTw
        have s6:=s5.trans s6
        clear hgTw hab' h5 s5
        go_wp2_with (refine wpList_stv rfl _ _ _ rfl gT (oT + p * 192 + n * 3) _ (enL ⟨1,f,u⟩) rfl rfl rfl _ _ hgT (by rw [enL_len]; exact hgTs) (by kernel_rfl) (one_toList (enC_one _)) ?_)
        intro w7 hb7 hg7
        have h7:=hgTw'.out w7 ⟨1,f,u⟩ hb7 hg7
        have s7:=s6.put (H':={ S5.lst a6 c6 l6 with T:=setL (S5.lst a6 c6 l6).T p n ⟨1,f,u⟩ }) hg7 (.inr (by simp only [klM,MW.lst,hab]; simp [oB]; right; right; right; right; right; right; right; right; rfl)) (fun x hx => .inl hx)
        clear hgT hb7 hg7 h6 s6
        go_wp2
        refine bodyPost_ret (v:=.tuple #[]) (by simp [results,go_sem,Try.results76]) rfl ?_
        exact ⟨_,rfl,h7,s7,⟨hK5.out.sp,hK5.out.fi,hK5.out.ct,hK5.out.dk,hK5.out.fl,hK5.out.sl⟩,hbdu.out u (fun h=>by first | exact trivial | exact ⟨rfl,rfl⟩ | exact absurd (hu1 h) (by decide) | simp),hent5.out _⟩
def zonR (B:Nat):Rel:=⟨fun v w => ∃ g,v = .pointer (some ⟨g,0,none⟩) ∧ Blk w g (fC f0) 107 ∧ B ≤ g,fun _ _ _ hb ⟨g,h1,h2,h3⟩=>⟨g,h1,h2.ext hb,h3⟩⟩
theorem zon_not {l:List Rel} {p q i B:Nat} {w:World} (hp:l.getD q anyR = zonR B) (hq:l.getD p anyR = zonR B):NotIt (rl l) p q i (.pointer (some ⟨w.heap.size,0,none⟩)) w:=by
 refine alloc_notIt (fun u hu => ?_) (fun u hu => ?_)
 ·unfold rl at hu
  rw [hp] at hu
  obtain ⟨g,h1,h2,_⟩:=hu
  exact ⟨g,_,_,h1,h2⟩
 ·unfold rl at hu
  rw [hq] at hu
  obtain ⟨g,h1,h2,_⟩:=hu
  exact ⟨g,_,_,h1,h2⟩
theorem asked_newN {P:Program} {ops:Array Oper} {ρ:Operand → Value} {o:Oper} {w w' : World} {l:List Rel} {p q i:Nat} (v:Value) (hw:Region.wanted o (says ρ ops) = true) (hrun:(execOp ρ o).run P w = .ok (.value v) w') (hb:Below w.heap.size w w') (hR:rl l i v w') (hN:NotIt (rl l) p q i v w) :
  if Region.wanted o (says ρ ops) = true then GivesR P o ρ w (fun v w'=>(Below w.heap.size w w' ∧ rl l i v w') ∧ NotIt (rl l) p q i v w) else rl l i undef w ∧ i ≠ p ∧ i ≠ q:=by
 rw [if_pos hw]
 unfold GivesR
 rw [hrun]
 exact ⟨⟨hb,hR⟩,hN⟩
theorem rmap_any (l:List Ar) (x:Ar) (a:Option Addr) (c:Nat) (w:World) (h:AsR w a c l) :
  Calls Try.prog 75 #[.slice a l.length c,.agg (arC x)] w fun r w' => ∃ v,r = .returned (.tuple #[v,.int .i64 (mapE l x)]) ∧ Own w' w.heap.size 69 7 v (mapL l x).length ((mapL l x).flatMap arL) ∧ Below w.heap.size w w':=by
 go_enter Try.func75,Try.ntmps75
 go_upto_region 1 with (fail)
 refine abs1 (fun W=>Code.wp _ _ _ _ W) fun W0 hb0 hx0 hs0 => ?_
 clear hs0
 go_wp2_with fail
 refine (rwrong_any l a c _ (h.below hb0)).mono ?_
 rintro r w1 ⟨rfl,hb1⟩
 have hbel1:=below_next hb0 hb1
 have hx1:=hx0.ext hb1
 clear hb0 hx0 hb1
 unfold fauC
 go_wp2_with (refine wpList_stn rfl _ _ _ rfl #[.int .i64 (wrongA l).1,.int .i64 (wrongA l).2] rfl rfl rfl fau_size (fau_one _ _) ?_)
 intro w2 hb2 hf2
 have hbel:=below_next hbel1 hb2
 have hx2:=hx1.ext hb2
 clear hbel1 hx1 hb2
 by_cases hw:(wrongA l).1 = 0
 ·have hall:=wrongA_iff.1 hw
  have hw0:=Lib.hid hw
  have hsr:=okF_srt0 hall.2
  rw [hw] at hf2
  have hcf:=hf2.cell
  clear hw
  go_wp2_with (refine wpList_ldg _ _ rfl _ 0 rfl rfl _ hx2.rd _ Try.underlying69 rfl area_size ?_)
  refine (warea_any x _).mono ?_
  rintro r w3 ⟨rfl,hb3⟩
  have hbel:=below_next hbel hb3
  have hx3:=hx2.ext hb3
  clear hcf hf2 hx2 hb3
  by_cases he:areaE x = 0
  ·have he0:=Lib.hid he
   rw [he]
   clear he
   go_upto_region 7 with (fail)
   refine wp_growN 7 5 6 [isV (.slice a l.length c),isV (.agg (fC (onesF l))),isV (.agg (arC x)),(oneA x),isV (.agg (fC (onesF [x]))),(zonR w.heap.size),(zonR w.heap.size)] (by kernel_rfl) (by decide) (by decide) (by decide) _ rfl (by kernel_rfl) (by kernel_rfl) (by decide) _ rfl (by kernel_rfl) (all_cons (askedN_of (by decide) (by decide) (gak (gwf rfl) (gmv rfl (gkp rfl rfl) rfl))) (all_cons ?_ (all_cons ?_ (all_cons ?_ (all_cons ?_ (all_cons ?_ (all_cons ?_ (all_nil)))))))) ?_
   ·refine askedN_of (by decide) (by decide) ?_
    intro ρ y W hw hn hb hd
    have E23:=hw 23 0 rfl
    have h0:y 0 = _:=hd 0 rfl
    have EF:∀ f,ρ (.func f) = .func (.func f) #[] #[]:=fun f=>hn (.func f) trivial
    refine asked_call _ _ (want_free rfl) (run_call rfl (EF _) Try.func44 (by kernel_rfl) (by kernel_rfl) (by simp only [List.map_toArray,List.map_cons,List.map_nil,E23,h0,EF]; rfl)) ?_
    refine (ones_any l a c W (h.below (below_next hbel hb)).rd (by omega) (fun x hx=>(srtF_ok hsr x hx).1)).mono ?_
    rintro r w1 ⟨rfl,hb1⟩
    exact ⟨_,rfl,hb1,rfl⟩
   ·refine askedN_of (by decide) (by decide) ?_
    intro ρ y W hw hn hb hd
    have E3:ρ (.tmp 3) = .pointer (some ⟨w.heap.size,0,none⟩):=(hn (.tmp 3) rfl).trans rfl
    refine asked_val (.agg (arC x)) (want_free rfl) (run_load_blk rfl E3 (hx3.ext hb) Try.underlying69 rfl area_size) rfl
   ·refine askedN_of (by decide) (by decide) ?_
    intro ρ y W hw hn hb hd
    have E25:=hw 25 2 rfl
    have h2:y 2 = _:=hd 2 rfl
    refine asked_new (.slice (some ⟨W.heap.size,0,none⟩) 1 1) (want_free rfl) (by simp [execOp,go_sem,stripO,E25,h2,arC]) ((Below.refl _ _).alloc (Nat.le_refl _) (.cells (arC x) 69)) ?_
    exact ⟨_,rfl,Blk.new _ _ _⟩
   ·refine askedN_of (by decide) (by decide) ?_
    intro ρ y W hw hn hb hd
    have E26:=hw 26 3 rfl
    have h3:=hd 3 rfl
    have EF:∀ f,ρ (.func f) = .func (.func f) #[] #[]:=fun f=>hn (.func f) trivial
    obtain ⟨gq,hq3,hqb⟩:=h3
    refine asked_call _ _ (want_free rfl) (run_call rfl (EF _) Try.func44 (by kernel_rfl) (by kernel_rfl) (by simp only [List.map_toArray,List.map_cons,List.map_nil,E26,EF,hq3]; rfl)) ?_
    refine (ones_any [x] _ 1 W (fun j u hj=>hqb.rd j u (by simpa [arL] using hj)) (by simp) (fun z hz=>by rw [List.mem_singleton.1 hz]; exact he0.out)).mono ?_
    rintro r w1 ⟨rfl,hb1⟩
    exact ⟨_,rfl,hb1,rfl⟩
   ·intro ρ y W hw hn hb hd
    refine asked_newN (.pointer (some ⟨W.heap.size,0,none⟩)) (want_free rfl) (w':=W.alloc (.cells (fC f0) 107)) ?_ ((Below.refl _ _).alloc (Nat.le_refl _) _) ⟨_,rfl,Blk.new _ _ _,(below_next hbel hb).size⟩ (zon_not rfl rfl)
    simp [execOp,go_sem,stripO,stripO]
    rfl
   ·intro ρ y W hw hn hb hd
    refine asked_newN (.pointer (some ⟨W.heap.size,0,none⟩)) (want_free rfl) (w':=W.alloc (.cells (fC f0) 107)) ?_ ((Below.refl _ _).alloc (Nat.le_refl _) _) ⟨_,rfl,Blk.new _ _ _,(below_next hbel hb).size⟩ (zon_not rfl rfl)
    simp [execOp,go_sem,stripO,stripO]
    rfl
   intro y WA hbWA hRWA hyne
   have hy1:y 1 = _:=hRWA 1 (by decide)
   have hy4:y 4 = _:=hRWA 4 (by decide)
   have hy3:=hRWA 3 (by decide)
   have hy5:((zonR w.heap.size)).r (y 5) WA:=hRWA 5 (by decide)
   have hy6:((zonR w.heap.size)).r (y 6) WA:=hRWA 6 (by decide)
   clear hRWA
   simp only [lay,strip,stripO,List.map_cons,List.map_nil,Nat.reduceAdd,Nat.reduceLT,decide_true,decide_false,if_true,Bool.false_eq_true,if_false,List.setIfInBounds_toArray,List.set_cons_zero,List.set_cons_succ,List.drop_succ_cons,List.drop_zero,List.drop_nil,hy1,hy4]
   clear hy1 hy4
   obtain ⟨gX,hyX,hbX,hgX⟩:∃ g,y 5 = .pointer (some ⟨g,0,none⟩) ∧ Blk WA g (fC f0) 107 ∧ w.heap.size ≤ g:=hy5
   obtain ⟨gY,hyY,hbY,hgY⟩:∃ g,y 6 = .pointer (some ⟨g,0,none⟩) ∧ Blk WA g (fC f0) 107 ∧ w.heap.size ≤ g:=hy6
   have hXY:gX ≠ gY:=fun e=>hyne (by rw [hyX,hyY,e])
   simp only [hyX,hyY]
   have hbelA:=below_next hbel hbWA
   clear hy3 hyX hyY hyne hbel hx3 hbWA
   go_upto_region 8 with (refine wpList_stw rfl _ _ _ rfl gX (fC (onesF l)) rfl rfl _ _ hbX (by rw [fC_size,fC_size]) (by rw [fC_size]; exact ones_size) (vsC_one _) ?_)
   intro W5 hX5 hgr5
   have hbel5:=hbelA.grown hgr5 hbelA.size (fun k hk=>by cases hk; exact hgX)
   have hY5:Blk W5 gY (fC f0) 107:=hbY.grown hgr5 (fun e=>hXY (Option.some.inj e))
   clear hbelA hbX hbY hgr5
   go_upto_region 8 with (refine wpList_stw rfl _ _ _ rfl gY (fC (onesF [x])) rfl rfl _ _ hY5 (by rw [fC_size,fC_size]) (by rw [fC_size]; exact ones_size) (vsC_one _) ?_)
   intro W6 hY6 hgr6
   have hbel6:=hbel5.grown hgr6 hbel5.size (fun k hk=>by cases hk; exact hgY)
   have hX6:Blk W6 gX (fC (onesF l)) 107:=hX5.grown hgr6 (fun e=>hXY (Option.some.inj e).symm)
   clear hbel5 hX5 hY5 hgr6
   go_upto_region 9 with (fail)
   go_loopw [28] (fun i wr => ∃ n:Nat,n ≤ 64 ∧ i = .int .i64 n ∧ Below w.heap.size w wr ∧ Blk wr gX (fC (midF x n (onesF l))) 107 ∧ Blk wr gY (fC (onesF [x])) 107 ∧ ∀ i:Nat,i < n → ¬ (inA (i:Int) x = true ∧ onA l i ≠ none)) (fun i _=>64 - (intOf i).toNat)
   case atStart=>exact ⟨0,by omega,rfl,hbel6,by rw [midF_start]; exact hX6,hY6,fun i hi=>absurd hi (Nat.not_lt_zero _)⟩
   case round=>
    clear hbel6 hX6 hY6
    obtain ⟨n,hn,rfl,hbr,hX,hY,hno0⟩:=hrel
    have hno:=Lib.hid hno0
    clear hno0
    by_cases hlt:n < 64
    ·have hlti:(n:Int) < 64:=by omega
     have dX:wr.cell? ⟨gX,n * 6,none⟩ = some (.bool (onA l n).isSome):=by
      rw [hX.cell]
      exact fC_cell (midF x n (onesF l)) n 0 hlt _ (by rw [midF_at,onesF_on hsr]; rfl) (by decide)
     have dY:wr.cell? ⟨gY,n * 6,none⟩ = some (.bool (onesF [x] n).isSome):=by
      rw [hY.cell]
      exact fC_cell (onesF [x]) n 0 hlt _ rfl (by decide)
     rw [one_at] at dY
     by_cases hin:inA (n:Int) x = true
     ·rw [if_pos hin] at dY
      cases hon:onA l (n:Int) with
      | some p=>
       rw [hon] at dX
       simp only [Option.isSome] at dX dY
       have q0:Hid _:=Lib.hid (map_err (l:=l) (x:=x) (e:=6) (by unfold mapE; rw [if_neg (by rw [hw0.out]; simp),if_neg (by rw [he0.out]; simp),if_pos (any_page hin (by rw [hon]; simp))]) (by decide))
       have hbel:=hbr
       clear hin hon
       go_wp2
       go_ret2
       have q:=q0.out
       exact ⟨.slice none 0 0,by first | (rw [q.1]; done) | (rw [q.1]; rfl),by rw [q.2]; exact Own.nil _ _ _ _,hbel⟩
      | none=>
       rw [hon] at dX
       simp only [Option.isSome] at dX dY
       have hset:Hid (putAt (fC (midF x n (onesF l))) (n * 6) (oneL (some (pgOf x n))) = fC (midF x (n + 1) (onesF l))):=Lib.hid (by
        rw [fC_set _ n hlt,midF_put hin])
       have hrdY:RdV wr (some ⟨gY,n * 6,none⟩) (oneL (some (pgOf x n))):=fun j u hj=>⟨gY,n * 6,rfl,by
        rw [hY.cell]
        exact fC_cell (onesF [x]) n j hlt u (by rw [one_at,if_pos hin]; exact hj) (by have:=(List.getElem?_eq_some_iff.1 hj).1; rwa [oneL_len] at this)⟩
       have hup:Hid (∀ i:Nat,i < n + 1 → ¬ (inA (i:Int) x = true ∧ onA l i ≠ none)):=Lib.hid (fun i hi hq=>by
        by_cases c:i = n
        ·subst c; exact hq.2 hon
        ·exact hno.out i (by omega) hq)
       have hfit:Hid (n * 6 + 6 ≤ (fC (midF x n (onesF l))).size):=Lib.hid (by rw [fC_size]; omega)
       clear hin hon
       go_upto_region 15 with (first | (refine wpList_ldg _ _ rfl _ (n * 6) rfl rfl _ hrdY _ Try.underlying106 rfl one_size ?_) | (refine wpList_st rfl _ _ _ rfl gX (n * 6) (oneC (some (pgOf x n))) rfl rfl _ _ hX hfit.out one_size (oneC_one _) ?_))
       intro W7 hX7 hgr7
       have hX8:Blk W7 gX (fC (midF x (n + 1) (onesF l))) 107:=by rw [← hset.out]; exact hX7
       have hbel7:=hbr.grown hgr7 hbr.size (fun k hk=>by cases hk; exact hgX)
       have hY7:Blk W7 gY (fC (onesF [x])) 107:=hY.grown hgr7 (fun e=>hXY (Option.some.inj e))
       clear hX hY hbr hX7 hgr7 dX dY hrdY hset hfit
       go_wp2
       go_roundw
       case rel=>exact ⟨n + 1,by omega,by go_num,hbel7,hX8,hY7,hup.out⟩
       case measure=>simp [intOf]; omega
     ·rw [if_neg hin] at dY
      simp only [Option.isSome] at dY
      have hup:Hid (∀ i:Nat,i < n + 1 → ¬ (inA (i:Int) x = true ∧ onA l i ≠ none)):=Lib.hid (fun i hi hq=>by
       by_cases c:i = n
       ·subst c; exact hin hq.1
       ·exact hno.out i (by omega) hq)
      have hX8:Blk wr gX (fC (midF x (n + 1) (onesF l))) 107:=by rw [midF_skip hin]; exact hX
      clear hin hX
      cases hsX:(onA l (n:Int)).isSome
      ·rw [hsX] at dX
       clear hsX
       go_wp2
       go_roundw
       case rel=>exact ⟨n + 1,by omega,by go_num,hbr,hX8,hY,hup.out⟩
       case measure=>simp [intOf]; omega
      ·rw [hsX] at dX
       clear hsX
       go_wp2
       go_roundw
       case rel=>exact ⟨n + 1,by omega,by go_num,hbr,hX8,hY,hup.out⟩
       case measure=>simp [intOf]; omega
    ·have hn64:n = 64:=by omega
     subst hn64
     have hany:=no_page hall.2 he0.out hno.out
     have hmt:∀ z ∈ l,meetsA x z = false:=fun z hz=>by have:=List.any_eq_false.1 hany z hz; simpa using this
     have hins:=insR_srt he0.out hsr (areaE_few he0.out).1.2.1.1 hmt
     rw [← insA_eq] at hins
     have hfin:Hid (mapE l x = doneE (tidyL (insA l x)).length):=Lib.hid (by unfold mapE; rw [if_neg (by rw [hw0.out]; simp),if_neg (by rw [he0.out]; simp),if_neg (by rw [hany]; simp)]; rfl)
     have hml:Hid (mapL l x = if 16 < (tidyL (insA l x)).length then [] else tidyL (insA l x)):=Lib.hid (by
      unfold mapL
      rw [hfin.out]
      unfold doneE
      by_cases h16:16 < (tidyL (insA l x)).length
      ·rw [if_pos h16,if_pos h16]; rfl
      ·rw [if_neg h16,if_neg h16]; rfl)
     have hs384:Hid ((fC (midF x 64 (onesF l))).size = 384):=Lib.hid (fC_size _)
     clear hlt
     go_wp2_with (refine wpList_ldg _ _ rfl _ 0 rfl rfl _ hX.rd _ Try.underlying107 rfl (by rw [Array.length_toList,hs384.out]; exact ones_size) ?_)
     refine (few_any (midF x 64 (onesF l)) (tidyL (insA l x)) (tidy_ok hins) (fun i hi => ?_) (fun i p hp => ?_) _).mono ?_
     ·rw [tidy_on hins,insA_eq,insR_on he0.out _ hsr hmt]
      unfold midF
      rw [onesF_on hsr]
      by_cases c:inA (i:Int) x = true
      ·rw [if_pos ⟨c,hi⟩,if_pos c]
      ·rw [if_neg (fun q=>c q.1),if_neg c]
     ·unfold midF at hp
      split at hp
      ·rename_i hq
       cases hp
       have h1:=pgOf_ok he0.out hq.1
       refine ⟨h1.2.2.1,?_⟩
       by_cases hf:(pgOf x i).fi < 0
       ·rw [(h1.2.2.2.1 hf).1]; decide
       ·have:=h1.2.2.2.2 (by omega); omega
      ·exact onesF_ok hsr i p hp
     ·rintro r w9 ⟨v9,rfl,hO9,hb9⟩
      have hbel9:=below_next hbr hb9
      replace hO9:=hO9.mono hbr.size
      rw [← hml.out] at hO9
      rw [← hfin.out]
      clear hbr hX hY hb9 hml
      go_wp2
      go_ret2
      exact ⟨v9,rfl,hO9,hbel9⟩
  ·have q0:Hid _:=Lib.hid (map_err (l:=l) (x:=x) (e:=areaE x) (by unfold mapE; rw [if_neg (by rw [hw0.out]; simp),if_pos he]) he)
   have he' : (areaE x != 0) = true:=by simpa using he
   clear he hall
   go_wp2
   go_ret2
   have q:=q0.out
   exact ⟨.slice none 0 0,by first | (rw [q.1]; done) | (rw [q.1]; rfl),by rw [q.2]; exact Own.nil _ _ _ _,hbel⟩
 ·have q0:Hid _:=Lib.hid (map_err (l:=l) (x:=x) (e:=(wrongA l).1) (by unfold mapE; rw [if_pos hw]) hw)
  have hw' : ((wrongA l).1 != 0) = true:=by simpa using hw
  have hcf:=hf2.cell
  clear hw
  go_upto_region 3 with (fail)
  go_quiet (fail)
  rename_i nq
  have hbel:=below_drewN hbel nq
  go_wp2
  go_ret2
  have q:=q0.out
  exact ⟨.slice none 0 0,by first | (rw [q.1]; done) | (rw [q.1]; rfl),by rw [q.2]; exact Own.nil _ _ _ _,hbel⟩
theorem map_zeroM {l:List Ar} {x:Ar} (h:mapE l x = 0):(l.length ≤ 16 ∧ okF none l) ∧ areaE x = 0 ∧ (∀ a ∈ l,meetsA x a = false) ∧ (tidyL (insA l x)).length ≤ 16 ∧ mapL l x = tidyL (insA l x):=by
 have h0:=h
 unfold mapE at h
 by_cases hw:(wrongA l).1 = 0
 ·rw [if_neg (by omega)] at h
  by_cases he:areaE x = 0
  ·rw [if_neg (by omega)] at h
   cases hm:l.any (meetsA x)
   ·rw [hm,if_neg (by simp)] at h
    refine ⟨wrongA_iff.1 hw,he,fun a ha => ?_,?_,?_⟩
    ·have:=List.any_eq_false.1 hm a ha
     simpa using this
    ·split at h
     ·omega
     ·omega
    ·unfold mapL; rw [if_neg (by omega)]
   ·rw [hm,if_pos rfl] at h; omega
  ·rw [if_pos he] at h; exact absurd h he
 ·rw [if_pos hw] at h; exact absurd h hw
theorem map_rightM {l:List Ar} {x:Ar} (h:mapE l x = 0):(mapL l x).length ≤ 16 ∧ okF none (mapL l x) ∧ ∀ n,onA (mapL l x) n = if inA n x then some (pgOf x n) else onA l n:=by
 obtain ⟨⟨h1,h2⟩,h3,h4,h5,h6⟩:=map_zeroM h
 have hs:=okF_srt0 h2
 have hx:=(areaE_few h3).1.2.1.1
 have hi:=insR_srt h3 hs hx h4
 rw [h6]
 rw [insA_eq] at h5 ⊢
 exact ⟨h5,tidy_ok hi,fun n=>by rw [tidy_on hi,insR_on h3 n hs h4]⟩
def FiM (S:MW):Prop:=∀ p ∈ S.H.sp,∀ n g,onA p.ar n = some g → g.fi < S.H.fi.length
structure More (S S' : MW):Prop where
 bd:Bd S'.H.ma S'.T
 fm:FiM S'
 fi:S'.H.fi = S.H.fi
 ct:S'.H.ct = S.H.ct
 dk:S'.H.dk = S.H.dk
 sp:S'.H.sp.length = S.H.sp.length + 1
 fs:S'.H.m.fs.length = S.H.m.fs.length
def SpaceR (S:MW) (B b:Nat) (w:World) (r:Ending) (w' : World):Prop:=∃ S',r = .returned (.tuple #[]) ∧ MkO w' B b S' ∧ MS w b S w' S' ∧ More S S' ∧
 (S.l = [] → S'.l = [] ∧ S'.H.ma = { S.H.ma with sp:=S.H.ma.sp ++ [⟨true,[],zTb⟩] } ∧ S'.T = S.T ++ [List.replicate 64 zEn])
theorem MkO.kb_ne {w:World} {B b:Nat} {S:MW} (h:MkO w B b S) {x:Nat} {cs:Array Value} {T:TypeId} (hk:Blk w x cs T)
  (hT:T ≠ 89 ∧ T ≠ 59 ∧ T ≠ 3 ∧ T ≠ 50 ∧ T ≠ 93 ∧ T ≠ 71 ∧ T ≠ 85 ∧ T ≠ 65 ∧ T ≠ 95):¬ kbM b S x:=by
 obtain ⟨t1,t2,t3,t4,t5,t6,t7,t8,t9⟩:=hT
 have own:∀ {e:TypeId} {sz n c:Nat} {a:Option Addr} {xs:List Value},T ≠ e → Own w B e sz (.slice a n c) n xs → oB a = some x → False:=fun ht ho hx=>by
  obtain ⟨_,cs',h2⟩:=own_oB ho hx
  exact blk_ne hk h2 ht rfl
 intro hx
 rcases hx with hx | hx
 ·subst hx; exact blk_ne hk h.blk t1 rfl
 ·simp only [klM,List.mem_cons,List.not_mem_nil,or_false] at hx
  rcases hx with hx | hx | hx | hx | hx | hx | hx | hx | hx
  ·exact own t2 h.ma.fr hx.symm
  ·exact own t3 h.ma.sl hx.symm
  ·exact own t4 h.ma.sw.b hx.symm
  ·exact own t4 h.ma.dk.b hx.symm
  ·exact own t5 h.ma.dk.q hx.symm
  ·exact own t6 h.ma.st.own hx.symm
  ·exact own t7 h.ma.ca hx.symm
  ·exact own t8 h.ma.sp hx.symm
  ·exact own t9 h.tt hx.symm
theorem MkO.own_not {w:World} {B b B' : Nat} {S:MW} (h:MkO w B b S) {e:TypeId} {sz n c:Nat} {a:Option Addr} {xs:List Value} (ho:Own w B' e sz (.slice a n c) n xs)
  (hT:e ≠ 89 ∧ e ≠ 59 ∧ e ≠ 3 ∧ e ≠ 50 ∧ e ≠ 93 ∧ e ≠ 71 ∧ e ≠ 85 ∧ e ≠ 65 ∧ e ≠ 95):∀ x,(Value.slice a n c).ownBlock = some x → ¬ kbM b S x:=fun x hx=>by
 obtain ⟨cs,hk⟩:=own_blk ho x hx
 exact h.kb_ne hk hT
theorem MkO.locA {w w' : World} {B b:Nat} {S:MW} (h:MkO w B b S) {g:Nat} {cs:Array Value} (hk:Blk w g cs 69) (hn:¬ kbM b S g) (hsp:∀ p ∈ S.H.sp,oB p.aa ≠ some g) (hgB:B ≤ g) (hg:w.grownBy w' (some g)):MkO w' B b S:=by
 have hne:∀ {a:Option Addr},oB a ∈ klM S → ∀ n c g',(Value.slice a n c).ownBlock = some g' → some g ≠ some g':=fun hm n c g' he e=>by
  cases e
  rw [oB_eq] at he
  exact hn (.inr (by rw [← he]; exact hm))
 exact ⟨h.blk.grown hg (fun e=>hn (.inl (Option.some.inj e))),h.ge,⟨h.ma.fr.grown hg (hne (by simp [klM]) _ _),h.ma.sl.grown hg (hne (by simp [klM]) _ _),⟨h.ma.sw.b.grown hg (hne (by simp [klM]) _ _),h.ma.sw.q.grown hg (fun g' he=>by rw [h.n3] at he; cases he)⟩,⟨h.ma.dk.b.grown hg (hne (by simp [klM]) _ _),h.ma.dk.q.grown hg (hne (by simp [klM]) _ _)⟩,
  ⟨h.ma.st.own.grown hg (hne (by simp [klM]) _ _),fun i p hp=>own_keep (h.ma.st.each i p hp) hk (by decide) hg,h.ma.st.apart⟩,h.ma.ca.grown hg (hne (by simp [klM]) _ _),h.ma.sp.grown hg (hne (by simp [klM]) _ _),fun p hp=>⟨(h.ma.ps p hp).1.grown hg (fun g' he e=>by
   cases e
   rw [oB_eq] at he
   exact hsp p hp he),(h.ma.ps p hp).2.keep hk (by decide) hg⟩,h.ma.c64⟩,
  h.tt.grown hg (hne (by simp [klM]) _ _),h.rd.keep h.ra h.bs hg hgB,h.ra,h.n1,h.n2,h.n3⟩
theorem MkO.newA {w:World} {B b:Nat} {S:MW} (h:MkO w B b S) {x:Nat} (hx:w.heap.size ≤ x):∀ p ∈ S.H.sp,oB p.aa ≠ some x:=fun p hp he=>by
 have:=(own_oB (h.ma.ps p hp).1 he).2.choose_spec.lt
 omega
def jBox (S:MW) (B b:Nat) (w:World) (i:Nat) (cs:Array Value) (T:TypeId):(Nat → Bool) → (Nat → Value) → World → Prop:=fun L y W=>
 jPk S B b w [] L y W ∧ (L i = true → ∃ g,y i = .pointer (some ⟨g,0,none⟩) ∧ Blk W g cs T ∧ ¬ kbM b S g ∧ w.heap.size ≤ g)
theorem jBox_st {S:MW} {B b:Nat} {w:World} {i:Nat} {cs:Array Value} {T:TypeId}:∀ L y W W',Below W.heap.size W W' → jBox S B b w i cs T L y W → jBox S B b w i cs T L y W':=
 fun _ _ _ _ hb ⟨h1,h2⟩=>⟨jPk_st _ _ _ _ hb h1,fun hL=>by
  obtain ⟨g,e1,e2,e3⟩:=h2 hL
  exact ⟨g,e1,e2.ext hb,e3⟩⟩
theorem jBox_new {S:MW} {B b:Nat} {w W:World} {i:Nat} {cs:Array Value} {T:TypeId} {L:Nat → Bool} {y:Nat → Value} (h0:MkO w B b S) (h:jBox S B b w i cs T L y W):jBox S B b w i cs T (updL L i) (updV y i (.pointer (some ⟨W.heap.size,0,none⟩))) (W.alloc (.cells cs T)):=by
 have hs:w.heap.size ≤ W.heap.size:=by
  obtain ⟨⟨a,c,l,h1,h2,h3⟩,_⟩:=h
  exact h2.size
 exact ⟨jPk_st _ _ _ _ ((Below.refl _ _).alloc (Nat.le_refl _) _) h.1,fun _=>⟨W.heap.size,by unfold updV; rw [if_pos rfl],Blk.new _ _ _,h0.new hs,hs⟩⟩
theorem jBox_pick {S:MW} {B b:Nat} {w W:World} {i:Nat} {cs:Array Value} {T:TypeId} {L L' : Nat → Bool} {y:Nat → Value} {y' : Value → Nat → Value} (hL:L' i = L i) (hy:∀ v,y' v i = y i) (n:Int) (hn : -9223372036854775808 ≤ n ∧ n ≤ 9223372036854775807) (h:jBox S B b w i cs T L y W) {R:Value → World → Prop} (hR:∀ x:Int,0 ≤ x → x < 256 → (x < n ∨ x = 0) → ∀ W',R (.int .i64 x) W') :
  Calls Try.prog 28 #[.pointer (some ⟨b,0,none⟩),.int .i64 n] W fun e W' => ∃ v,e = .returned v ∧ jBox S B b w i cs T L' (y' v) W' ∧ R v W':=by
 obtain ⟨⟨a,c,l,h1,h2,h3⟩,h4⟩:=h
 refine (rpick_any _ n B b W h1 hn).mono ?_
 rintro r W' ⟨x,a',c',l',rfl,k1,k2,k3,_⟩
 exact ⟨_,rfl,⟨⟨a',c',l',k1,h2.trans k2,fun t ht=>(by cases ht)⟩,fun hl=>by
  obtain ⟨g,e1,e2,e3,e4⟩:=h4 (by rw [← hL]; exact hl)
  exact ⟨g,by rw [hy]; exact e1,k2.blkN e2 e3,e3,e4⟩⟩,hR x k3.1 k3.2.1 k3.2.2 W'⟩
theorem grow_T {w w' : World} {B sz n c:Nat} {e:TypeId} {a:Option Addr} {xs:List Value} (ho:Own w B e sz (.slice a n c) n xs) (hg:w.grownBy w' (Value.slice a n c).ownBlock):Below w.heap.size w w' ∨ ∃ g cs,Blk w g cs e ∧ oB a = some g ∧ w.grownBy w' (some g):=by
 cases h:(Value.slice a n c).ownBlock with
 | none=>rw [h] at hg; exact .inl (grown_below hg)
 | some g=>
  rw [h] at hg
  obtain ⟨cs,hk⟩:=own_blk ho g h
  exact .inr ⟨g,cs,hk,by rw [← oB_eq a n c]; exact h,hg⟩
theorem MkO.appP {w w1 w2:World} {B b:Nat} {S:MW} (h:MkO w B b S) (hg:w.grownBy w1 (Value.slice S.H.ap S.H.sp.length S.H.cp).ownBlock) {a:Option Addr} {c:Nat} {l:List PS} (ho:Own w1 B 65 10 (.slice a l.length c) l.length (l.flatMap psL))
  (hp:∀ p ∈ l,Own w1 B 69 7 (.slice p.aa p.ar.length p.ac) p.ar.length (p.ar.flatMap arL) ∧ TbO w1 B (tsC p.ts) p.tb) (hb:Blk w2 b (putAt (mkC S) 11 [.slice a l.length c]) 89) (hg2:w1.grownBy w2 (some b)) :
  MkO w2 B b { S with H:={ S.H with ap:=a,cp:=c,sp:=l } }:=by
 have key:Blk w1 b (mkC S) 89 ∧ Own w1 B 59 13 (.slice S.H.af S.H.m.fs.length S.H.cf) S.H.m.fs.length (S.H.m.fs.flatMap frL) ∧ Own w1 B 3 1 (.slice S.H.asl S.H.sl.length S.H.csl) S.H.sl.length (S.H.sl.map inV) ∧
   DOwn w1 B (.slice S.H.wb S.H.sw.blocks.length S.H.cwb) (.slice S.H.wq S.H.sw.queue.length S.H.cwq) S.H.sw ∧ DOwn w1 B (.slice S.H.db S.H.dk.blocks.length S.H.cdb) (.slice S.H.dq S.H.dk.queue.length S.H.cdq) S.H.dk ∧ FsO w1 B (.slice S.H.ai S.H.fi.length S.H.ci) S.H.fi ∧
   Own w1 B 85 3 (.slice S.H.ac S.H.ca.length S.H.cc) S.H.ca.length (S.H.ca.flatMap ccL) ∧ Own w1 B 95 192 (.slice S.ab S.T.length S.cb) S.T.length (S.T.flatMap tL) ∧ SlR w1 S.al S.cl S.l.length (S.l.map byV):=by
  rcases grow_T h.ma.sp hg with hb0 | ⟨g,cs,hk,hga,hg'⟩
  ·have h1:=h.below hb0
   exact ⟨h1.blk,h1.ma.fr,h1.ma.sl,h1.ma.sw,h1.ma.dk,h1.ma.st,h1.ma.ca,h1.tt,h1.rd⟩
  ·exact ⟨blk_keep h.blk hk (by decide) hg',own_keep h.ma.fr hk (by decide) hg',own_keep h.ma.sl hk (by decide) hg',h.ma.sw.keep hk (by decide) (by decide) hg',h.ma.dk.keep hk (by decide) (by decide) hg',h.ma.st.keep hk (by decide) (by decide) hg',own_keep h.ma.ca hk (by decide) hg',own_keep h.tt hk (by decide) hg',h.rd.keep h.ra h.bs hg' (own_oB h.ma.sp hga).1⟩
 obtain ⟨k0,k1,k2,k3,k4,k5,k6,k7,k8⟩:=key
 exact ⟨hb,h.ge,⟨own_keep k1 k0 (by decide) hg2,own_keep k2 k0 (by decide) hg2,k3.keep k0 (by decide) (by decide) hg2,k4.keep k0 (by decide) (by decide) hg2,k5.keep k0 (by decide) (by decide) hg2,own_keep k6 k0 (by decide) hg2,own_keep ho k0 (by decide) hg2,fun p hpm=>⟨own_keep (hp p hpm).1 k0 (by decide) hg2,(hp p hpm).2.keep k0 (by decide) hg2⟩,h.ma.c64⟩,
  own_keep k7 k0 (by decide) hg2,k8.keep h.ra (Nat.le_trans h.ge (Nat.le_of_lt k0.lt)) hg2 h.ge,h.ra,h.n1,h.n2,h.n3⟩
theorem MkO.appT {w w1 w2:World} {B b:Nat} {S:MW} (h:MkO w B b S) (hg:w.grownBy w1 (Value.slice S.ab S.T.length S.cb).ownBlock) {a:Option Addr} {c:Nat} {T:List (List En)} (ho:Own w1 B 95 192 (.slice a T.length c) T.length (T.flatMap tL))
  (hb:Blk w2 b (putAt (mkC S) 12 [.slice a T.length c]) 89) (hg2:w1.grownBy w2 (some b)):MkO w2 B b { S with ab:=a,cb:=c,T:=T }:=by
 have key:Blk w1 b (mkC S) 89 ∧ MaO w1 B S.H ∧ SlR w1 S.al S.cl S.l.length (S.l.map byV):=by
  rcases grow_T h.tt hg with hb0 | ⟨g,cs,hk,hga,hg'⟩
  ·have h1:=h.below hb0
   exact ⟨h1.blk,h1.ma,h1.rd⟩
  ·exact ⟨blk_keep h.blk hk (by decide) hg',h.ma.keep hk (by decide) hg',h.rd.keep h.ra h.bs hg' (own_oB h.tt hga).1⟩
 obtain ⟨k0,k1,k2⟩:=key
 exact ⟨hb,h.ge,k1.keep k0 (by decide) hg2,own_keep ho k0 (by decide) hg2,k2.keep h.ra (Nat.le_trans h.ge (Nat.le_of_lt k0.lt)) hg2 h.ge,h.ra,h.n1,h.n2,h.n3⟩
theorem MS.app {w0 w w1 w2:World} {B b B' sz n n' c c' : Nat} {S0 S S' : MW} {e:TypeId} {a a' : Option Addr} {xs:List Value} (h:MS w0 b S0 w S) (hm:MkO w B b S) (ho:Own w B' e sz (.slice a n c) n xs) (hk:oB a ∈ klM S) (hg:w.grownBy w1 (Value.slice a n c).ownBlock) (hg2:w1.grownBy w2 (some b)) (hbn:SameOrNew w (.slice a n c) (.slice a' n' c'))
  (hn:∀ x,kbM b S' x → kbM b S x ∨ oB a' = some x):MS w0 b S0 w2 S':=by
 have h1:MS w0 b S0 w1 S:=by
  rcases grow_T ho hg with hb0 | ⟨g,cs,_,hga,hg'⟩
  ·exact h.below hb0
  ·exact h.put hg' (.inr (by rw [← hga]; exact hk)) (fun x hx => .inl hx)
 refine h1.put hg2 (.inl rfl) fun x hx => ?_
 rcases hn x hx with hx | hx
 ·exact .inl hx
 ·rcases hbn with e1 | e1
  ·rw [oB_eq,oB_eq] at e1
   exact .inl (.inr (by rw [← hx,e1]; exact hk))
  ·exact .inr (Nat.le_trans h.size (e1 x (by rw [oB_eq]; exact hx)))
theorem ents_info:(Try.prog.info? 95).map (fun i=>(i.zero,i.size,i.bytes)) = some (some (.agg (tL (List.replicate 64 zEn)).toArray),192,1536):=by kernel_rfl
theorem wpList_appE {w:World} {ops:Array Oper} {rest:List Oper} {o:Oper} {a:Act} {Q:Exit → Act → World → Prop} (hg:o.guard = none) (s x:Operand)
  (hop:o.op = Op.call { callee:=Callee.builtin Builtin.append,args:=#[s,x],argTypes:=#[87,87] }) {cs:Array Value} (hcs:cs = (tL (List.replicate 64 zEn)).toArray)
  (B:Nat) (v:Value) (n:Nat) (xs:List Value) (hs:a.eval s = v) (hown:Own w B 95 192 v n xs) (hx:a.eval x = .slice (some ⟨w.heap.size,0,none⟩) 1 1) (hn:n ≤ 100) (hB:B ≤ w.heap.size)
  (hK:∀ v' w',Own w' B 95 192 v' (n + 1) (xs ++ tL (List.replicate 64 zEn)) → (w.alloc (.cells (tL (List.replicate 64 zEn)).toArray 95)).grownBy w' v.ownBlock → SameOrNew (w.alloc (.cells (tL (List.replicate 64 zEn)).toArray 95)) v v' → wpList Try.prog ops Q rest (a.put o.dst v') w') :
  wpList Try.prog ops Q (o :: rest) a (w.alloc (.cells cs 95)):=by
 subst hcs
 exact wpList_appC hg s x 87 hop B 95 _ 192 1536 Try.underlying87 ents_info rfl (by decide) v n xs hs (hown.alloc _) (some ⟨w.heap.size,0,none⟩) 1 1 (tL (List.replicate 64 zEn)) hx (fun h=>(by cases h)) (Nat.le_refl _) (tL_len _) (by simpa using RdV.new w (tL (List.replicate 64 zEn)).toArray 95) (by decide +kernel) (by unfold maxLen; omega) (by omega) (le_alloc' hB _) hK
theorem rspace_any (S:MW) (B b:Nat) (w:World) (h:MkO w B b S) (hd:Bd S.H.ma S.T) (hf:FiM S) (hl4:S.H.sp.length < 4) :
  Calls Try.prog 33 #[.pointer (some ⟨b,0,none⟩)] w (SpaceR S B b w):=by
 have hd':=Lib.hid hd
 have hf':=Lib.hid hf
 have hBs:=Lib.hid h.bs
 have hfl5:S.H.fi.length ≤ 5:=by
  have:=(wrongSt_iff.1 hd.few.2.2.2.2.1).1.1
  simpa [MH.ma,stOf] using this
 clear hd hf
 go_enter Try.func33,Try.ntmps33
 go_wp2_with fail
 refine (rpick_any _ 4 B b _ h (by omega)).mono ?_
 rintro r w1 ⟨n1,a1,c1,l1,rfl,h1,s1,hn1,hq1⟩
 obtain ⟨N,rfl⟩:=Int.eq_ofNat_of_zero_le hn1.1
 have hN4:N < 4:=by omega
 have hq1':=Lib.hid hq1
 clear h hn1 hq1
 have hwl:IntKind.i64.wrap ((S.H.fi.length:Int) + 1) = (S.H.fi.length:Int) + 1:=IntWalk.i64_in _ (by omega)
 go_upto_region 2 with (fail)
 go_loopw [11,2] (fun i u wr => ∃ (k:Nat) (A:List Ar) (a:Option Addr) (c:Nat) (al:Option Addr) (cl:Nat) (ll:List UInt8),k ≤ N ∧ i = .int .i64 k ∧ u = .slice a A.length c ∧ Own wr B 69 7 (.slice a A.length c) A.length (A.flatMap arL) ∧ MkO wr B b (S.lst al cl ll) ∧ MS w b S wr (S.lst al cl ll) ∧
  Hid ((wrongA A).1 = 0 ∧ (∀ n g,onA A n = some g → g.fi < S.H.fi.length) ∧ (k = 0 → A = [] ∧ ll = l1))) (fun i _ _=>N - (intOf i).toNat)
 case atStart=>exact ⟨0,[],none,0,a1,c1,l1,Nat.zero_le _,rfl,rfl,by simpa using Own.nil _ _ _ _,h1,s1,Lib.hid ⟨by decide,fun n g h=>(by cases h),fun _=>⟨rfl,rfl⟩⟩⟩
 case round=>
  clear h1 s1
  obtain ⟨k,A,a,c,al,cl,ll,hk,rfl,rfl,hown,hm,hs,hA⟩:=hrel
  have hnu:=Lib.hid (hm.own_not hown (by decide))
  by_cases hkN:k < N
  ·have hki:(k:Int) < (N:Int):=by omega
   go_upto_region 3 with (fail)
   refine wp_growPQ 21 [_,.r 1 ((fixR fun v => ∃ x:Int,v = .int .i64 x ∧ 0 ≤ x ∧ x < 12)),_,.r 3 ((fixR fun v => ∃ x:Int,v = .int .i64 x)),.r 4 ((fixR fun v => ∃ u,v = .bool u)),_,.r 6 ((fixR fun v => ∃ x:Int,v = .int .i64 x)),.r 7 ((fixR fun v => ∃ u,v = .bool u)),_,_,_,_,_,_,.v (.slice S.H.ai S.H.fi.length S.H.ci),_,_,.r 17 ((fixR fun v => ∃ x:Int,v = .int .i64 x ∧ 0 ≤ x ∧ x < (S.H.fi.length:Int) + 1)),.r 18 ((fixR fun v => ∃ x:Int,v = .int .i64 x ∧ -1 ≤ x ∧ x < S.H.fi.length)),.r 19 ((fixR fun v => ∃ fr rd wr fi,v = .agg (arC ⟨fr,0,rd,wr,false,fi,0⟩) ∧ 0 ≤ fr ∧ fr < 12 ∧ -1 ≤ fi ∧ fi < S.H.fi.length)),.r 20 ((fixR fun _=>True))] (jBox (S.lst al cl ll) B b wr 20 (arC ⟨0,0,false,false,false,0,0⟩) 69) jBox_st (fun _=>⟨⟨al,cl,ll,hm,MS.refl _ _ _,fun t ht=>(by cases ht)⟩,fun e=>(by cases e)⟩) (Qk jBox_st rfl (all_cons ?_ (Qk jBox_st rfl (all_cons ?_ (all_cons ?_ (Qk jBox_st rfl (all_cons ?_ (all_cons ?_ (Qk jBox_st rfl (Qk jBox_st rfl (Qk jBox_st rfl (Qf jBox_st b 1 rfl rfl (Qf jBox_st b 8 rfl rfl (Qf jBox_st b 8 rfl rfl (all_cons ?_ (Qn jBox_st rfl rfl rfl rfl (Qb jBox_st (.int .i64 ((S.H.fi.length:Int) + 1)) (by simp [go_sem,hwl]) rfl rfl rfl rfl rfl (all_cons ?_ (all_cons ?_ (all_cons ?_ (all_cons ?_ (all_nil)))))))))))))))))))))) (fun _=>rfl) rfl ?_
   ·intro ρ y W L hw hn hLi hLd hb hd; have E13:=hw 13 0 rfl; have h0:y 0 = _:=hd 0 rfl
    have EC:∀ v,ρ (.const v) = v:=fun v=>hn (.const v) trivial
    have EF:∀ f,ρ (.func f) = .func (.func f) #[] #[]:=fun f=>hn (.func f) trivial
    refine asked_callQ _ _ (want_free rfl) (run_call rfl (EF _) Try.func28 (by kernel_rfl) (by kernel_rfl) (by simp only [List.map_toArray,List.map_cons,List.map_nil,E13,h0,EC,EF]; rfl)) ?_
    exact jBox_pick rfl (fun _=>rfl) 12 (by omega) hb fun x h1 h2 h3 _=>⟨x,rfl,h1,by omega⟩
   ·intro ρ y W L hw hn hLi hLd hb hd; have E15:=hw 15 2 rfl; have h2:y 2 = _:=hd 2 rfl
    have EC:∀ v,ρ (.const v) = v:=fun v=>hn (.const v) trivial
    have EF:∀ f,ρ (.func f) = .func (.func f) #[] #[]:=fun f=>hn (.func f) trivial
    refine asked_callQ _ _ (want_free rfl) (run_call rfl (EF _) Try.func28 (by kernel_rfl) (by kernel_rfl) (by simp only [List.map_toArray,List.map_cons,List.map_nil,E15,h2,EC,EF]; rfl)) ?_
    exact jBox_pick rfl (fun _=>rfl) 4 (by omega) hb fun x h1 h2 h3 _=>⟨x,rfl⟩
   ·intro ρ y W L hw hn hLi hLd hb hd
    refine askQ jBox_st (fun _ _ h=>h) hb ?_
    have E16:=hw 16 3 rfl
    have h3:=hd 3 rfl
    obtain ⟨x,hx⟩:=h3
    refine asked_val _ (want_free rfl) (run_bin rfl (E16.trans hx) (hn (.const _) trivial) (by simp [go_sem]; rfl)) ⟨_,rfl⟩
   ·intro ρ y W L hw hn hLi hLd hb hd; have E18:=hw 18 5 rfl; have h5:y 5 = _:=hd 5 rfl
    have EC:∀ v,ρ (.const v) = v:=fun v=>hn (.const v) trivial
    have EF:∀ f,ρ (.func f) = .func (.func f) #[] #[]:=fun f=>hn (.func f) trivial
    refine asked_callQ _ _ (want_free rfl) (run_call rfl (EF _) Try.func28 (by kernel_rfl) (by kernel_rfl) (by simp only [List.map_toArray,List.map_cons,List.map_nil,E18,h5,EC,EF]; rfl)) ?_
    exact jBox_pick rfl (fun _=>rfl) 3 (by omega) hb fun x h1 h2 h3 _=>⟨x,rfl⟩
   ·intro ρ y W L hw hn hLi hLd hb hd
    refine askQ jBox_st (fun _ _ h=>h) hb ?_
    have E19:=hw 19 6 rfl
    have h6:=hd 6 rfl
    obtain ⟨x,hx⟩:=h6
    refine asked_val _ (want_free rfl) (run_bin rfl (E19.trans hx) (hn (.const _) trivial) (by simp [go_sem]; rfl)) ⟨_,rfl⟩
   ·intro ρ y W L hw hn hLi hLd hb hd
    refine askQ jBox_st (fun _ _ h=>h) hb ?_
    have E26:=hw 26 13 rfl
    have h13:y 13 = _:=hd 13 rfl
    obtain ⟨⟨a0,c0,l0,m1,m2,m3⟩,_⟩:=hb
    refine asked_val (.slice S.H.ai S.H.fi.length S.H.ci) (want_free rfl) (by simp [execOp,go_sem,E26,h13,m1.blk.cell,mkC,MW.lst]) rfl
   ·intro ρ y W L hw hn hLi hLd hb hd; have E21:=hw 21 8 rfl; have h8:y 8 = _:=hd 8 rfl; have E29:=hw 29 16 rfl; have h16:y 16 = _:=hd 16 rfl
    have EF:∀ f,ρ (.func f) = .func (.func f) #[] #[]:=fun f=>hn (.func f) trivial
    refine asked_callQ _ _ (want_free rfl) (run_call rfl (EF _) Try.func28 (by kernel_rfl) (by kernel_rfl) (by simp only [List.map_toArray,List.map_cons,List.map_nil,E21,h8,E29,h16,EF]; rfl)) ?_
    exact jBox_pick rfl (fun _=>rfl) _ (by omega) hb fun x h1 h2 h3 _=>⟨x,rfl,h1,by omega⟩
   ·intro ρ y W L hw hn hLi hLd hb hd
    refine askQ jBox_st (fun _ _ h=>h) hb ?_
    have E30:=hw 30 17 rfl
    have h17:=hd 17 rfl
    obtain ⟨x,hx,k1,k2⟩:=h17
    have hw9:IntKind.i64.wrap (x - 1) = x - 1:=IntWalk.i64_in _ (by omega)
    refine asked_val (.int .i64 (x - 1)) (want_free rfl) (run_bin rfl (E30.trans hx) (hn (.const _) trivial) (by simp [go_sem,hw9])) ⟨_,rfl,by omega,by omega⟩
   ·intro ρ y W L hw hn hLi hLd hb hd
    refine askQ jBox_st (fun _ _ h=>h) hb ?_
    have E14:=hw 14 1 rfl
    have h1:=hd 1 rfl
    have E17:=hw 17 4 rfl
    have h4:=hd 4 rfl
    have E20:=hw 20 7 rfl
    have h7:=hd 7 rfl
    have E31:=hw 31 18 rfl
    have h18:=hd 18 rfl
    obtain ⟨x1,hx1,k1,k2⟩:=h1
    obtain ⟨x2,hx2⟩:=h4
    obtain ⟨x3,hx3⟩:=h7
    obtain ⟨x4,hx4,k3,k4⟩:=h18
    refine asked_val (.agg (arC ⟨x1,0,x2,x3,false,x4,0⟩)) (want_free rfl) (by simp [execOp,go_sem,E14,E17,E20,E31,hx1,hx2,hx3,hx4,arC]) ⟨x1,x2,x3,x4,rfl,k1,k2,k3,k4⟩
   ·intro ρ y W L hw hn hLi hLd hb hd
    refine asked_runQ (.pointer (some ⟨W.heap.size,0,none⟩)) (want_free rfl) ?_ (jBox_new hm hb) trivial
    simp [execOp,go_sem,arC]
   intro y W2 hbW2 hRW2
   have hy1:((fixR fun v => ∃ x:Int,v = .int .i64 x ∧ 0 ≤ x ∧ x < 12)).r (y 1) W2:=hRW2 1 (by decide)
   have hy3:((fixR fun v => ∃ x:Int,v = .int .i64 x)).r (y 3) W2:=hRW2 3 (by decide)
   have hy4:((fixR fun v => ∃ u,v = .bool u)).r (y 4) W2:=hRW2 4 (by decide)
   have hy6:((fixR fun v => ∃ x:Int,v = .int .i64 x)).r (y 6) W2:=hRW2 6 (by decide)
   have hy7:((fixR fun v => ∃ u,v = .bool u)).r (y 7) W2:=hRW2 7 (by decide)
   have hy17:((fixR fun v => ∃ x:Int,v = .int .i64 x ∧ 0 ≤ x ∧ x < (S.H.fi.length:Int) + 1)).r (y 17) W2:=hRW2 17 (by decide)
   have hy18:((fixR fun v => ∃ x:Int,v = .int .i64 x ∧ -1 ≤ x ∧ x < S.H.fi.length)).r (y 18) W2:=hRW2 18 (by decide)
   have hy19:((fixR fun v => ∃ fr rd wr fi,v = .agg (arC ⟨fr,0,rd,wr,false,fi,0⟩) ∧ 0 ≤ fr ∧ fr < 12 ∧ -1 ≤ fi ∧ fi < S.H.fi.length)).r (y 19) W2:=hRW2 19 (by decide)
   have hy20:((fixR fun _=>True)).r (y 20) W2:=hRW2 20 (by decide)
   clear hRW2
   obtain ⟨⟨a2,c2,l2,h2,s2,_⟩,hbox⟩:=hbW2
   obtain ⟨gx,hgx,axz,hnx,hxw2⟩:=hbox rfl
   obtain ⟨fr,rd,wr2,fi,hv,hb1,hb2,hb3,hb4⟩:=hy19
   rw [hv,hgx]
   clear hv hgx hbox
   rw [lst_two] at h2 s2
   have hown2:=s2.ownN hown hnu.out
   have hnu2:Hid (∀ x,(Value.slice a A.length c).ownBlock = some x → ¬ kbM b S x):=hnu
   have hna:=Lib.hid (hm.newA hxw2)
   have hux:Hid (∀ x,(Value.slice a A.length c).ownBlock = some x → some gx ≠ some x):=Lib.hid fun x hx e=>by
    have:=own_lt' hown x hx
    cases e
    omega
   have hxw:=Lib.hid (Nat.le_trans hs.size hxw2)
   have hxB:B ≤ gx:=Nat.le_trans hm.bs hxw2
   have hnx:=Lib.hid hnx
   have s2:=hs.trans s2
   clear hm hs hown hxw2
   go_wp2_with (refine wpList_stw rfl _ _ _ rfl gx (arC ⟨fr,0,rd,wr2,false,fi,0⟩) rfl rfl _ _ axz rfl area_size (arC_one _) ?_)
   intro w3 ax3 hg3
   have h3:=h2.locA axz hnx.out hna.out hxB hg3
   have s3:=s2.loc hg3 hxw.out
   have hown3:=hown2.grown hg3 hux.out
   clear h2 s2 hown2 hg3 axz
   have hwf:IntKind.i64.wrap (fr + 1) = fr + 1:=IntWalk.i64_in _ (by omega)
   go_upto_region 4 with (fail)
   refine wp_growPQ 7 [_,.v (.int .i64 fr),_,_,.r 4 ((fixR fun v => ∃ x:Int,v = .int .i64 x ∧ 0 ≤ x ∧ x < 4)),.r 5 ((fixR fun v => ∃ x:Int,v = .int .i64 x ∧ fr < x ∧ x ≤ fr + 4)),_] (jPk (S.lst a2 c2 l2) B b w3 [(gx,arC ⟨fr,0,rd,wr2,false,fi,0⟩,69)]) jPk_st (fun _=>⟨a2,c2,l2,h3,MS.refl _ _ _,by simpa using ⟨ax3,hnx.out⟩⟩) (Qf jPk_st gx 0 rfl rfl (all_cons ?_ (Qb jPk_st (.int .i64 (fr + 1)) (by simp [go_sem,hwf]) rfl rfl rfl rfl rfl (Qk jPk_st rfl (all_cons ?_ (all_cons ?_ (Qf jPk_st gx 1 rfl rfl (all_nil)))))))) (fun _=>rfl) rfl ?_
   ·intro ρ y W L hw hn hLi hLd hb hd
    refine askQ jPk_st (fun _ _ h=>h) hb ?_
    have E33:=hw 33 0 rfl
    have h0:y 0 = _:=hd 0 rfl
    obtain ⟨a0,c0,l0,m1,m2,m3⟩:=hb
    have m3:=(m3 _ (List.mem_singleton.2 rfl)).1
    refine asked_val (.int .i64 fr) (want_free rfl) (by simp [execOp,go_sem,E33,h0,m3.cell,arC]) rfl
   ·intro ρ y W L hw hn hLi hLd hb hd; have E36:=hw 36 3 rfl; have h3:y 3 = _:=hd 3 rfl
    have EC:∀ v,ρ (.const v) = v:=fun v=>hn (.const v) trivial
    have EF:∀ f,ρ (.func f) = .func (.func f) #[] #[]:=fun f=>hn (.func f) trivial
    refine asked_callQ _ _ (want_free rfl) (run_call rfl (EF _) Try.func28 (by kernel_rfl) (by kernel_rfl) (by simp only [List.map_toArray,List.map_cons,List.map_nil,E36,h3,EC,EF]; rfl)) ?_
    exact jPk_pick 4 (by omega) hb fun x h1 h2 h3 _=>⟨x,rfl,h1,by omega⟩
   ·intro ρ y W L hw hn hLi hLd hb hd
    refine askQ jPk_st (fun _ _ h=>h) hb ?_
    have E35:=hw 35 2 rfl
    have h2:y 2 = _:=hd 2 rfl
    have E37:=hw 37 4 rfl
    have h4:=hd 4 rfl
    obtain ⟨x,hx,k1,k2⟩:=h4
    have hw9:IntKind.i64.wrap (fr + 1 + x) = fr + 1 + x:=IntWalk.i64_in _ (by omega)
    refine asked_val (.int .i64 (fr + 1 + x)) (want_free rfl) (run_bin rfl (E35.trans h2) (E37.trans hx) (by simp [go_sem,hw9])) ⟨_,rfl,by omega,by omega⟩
   intro y W4 hbW4 hRW4
   have hy4:((fixR fun v => ∃ x:Int,v = .int .i64 x ∧ 0 ≤ x ∧ x < 4)).r (y 4) W4:=hRW4 4 (by decide)
   have hy5:((fixR fun v => ∃ x:Int,v = .int .i64 x ∧ fr < x ∧ x ≤ fr + 4)).r (y 5) W4:=hRW4 5 (by decide)
   clear hRW4
   obtain ⟨a4,c4,l4,h4,s4,hks⟩:=hbW4
   have ax4:=(hks _ (List.mem_singleton.2 rfl)).1
   rw [lst_two] at h4 s4
   have hown4:=s4.ownN hown3 hnu2.out
   have s4:=s3.trans s4
   obtain ⟨en,hv,he1,he2⟩:=hy5
   rw [hv]
   clear hv hks h3 s3 hown3 ax3 hwf
   go_wp2_with (refine wpList_stv rfl _ _ _ rfl gx 1 _ [.int .i64 en] rfl rfl rfl _ _ ax4 (by show 1 + 1 ≤ 7; omega) (by kernel_rfl) (fun u hu=>by cases List.mem_singleton.1 hu; rfl) ?_)
   intro w5 ax5 hg5
   rw [show putAt (arC ⟨fr,0,rd,wr2,false,fi,0⟩) 1 [.int .i64 en] = arC ⟨fr,en,rd,wr2,false,fi,0⟩ from rfl] at ax5
   have h5:=h4.locA ax4 hnx.out hna.out hxB hg5
   have s5:=s4.loc hg5 hxw.out
   have hown5:=hown4.grown hg5 hux.out
   clear h4 s4 hown4 ax4 hg5
   have hcx:=ax5.cell
   unfold arC at hcx
   go_upto_if 42 with (fail)
   go_cut [2] (fun s2 wx=>s2 = .slice a A.length c ∧ ∃ (X:Ar) (a:Option Addr) (cl:Nat) (l:List UInt8),Blk wx gx (arC X) 69 ∧ MkO wx B b (S.lst a cl l) ∧ MS w b S wx (S.lst a cl l) ∧ Own wx B 69 7 s2 A.length (A.flatMap arL) ∧ Hid (X.fi < S.H.fi.length))
   case first=>
    by_cases hfi0:0 ≤ fi
    ·go_wp2_with fail
     refine (rpick_any _ 2 B b _ h5 (by omega)).mono ?_
     rintro r w6 ⟨x6,a6,c6,l6,rfl,h6,s6,_,_⟩
     rw [lst_two] at h6 s6
     have ax6:=s6.blkN ax5 hnx.out
     have own6:=s6.ownN hown5 hnu2.out
     have s6:=s5.trans s6
     clear h5 s5 hown5 hcx ax5
     go_wp2_with fail
     refine (rpick_any _ 4 B b _ h6 (by omega)).mono ?_
     rintro r w7 ⟨x7,a7,c7,l7,rfl,h7,s7,_,_⟩
     rw [lst_two] at h7 s7
     have ax7:=s7.blkN ax6 hnx.out
     have own7:=s7.ownN own6 hnu2.out
     have s7:=s6.trans s7
     clear h6 s6 own6 ax6
     go_wp2_with (refine wpList_stv rfl _ _ _ rfl gx 4 _ [.bool (x6 == 1)] rfl rfl rfl _ _ ax7 (by show 4 + 1 ≤ 7; omega) (by kernel_rfl) (fun u hu=>by cases List.mem_singleton.1 hu; rfl) ?_)
     intro w8 ax8 hg8
     rw [show putAt (arC ⟨fr,en,rd,wr2,false,fi,0⟩) 4 [.bool (x6 == 1)] = arC ⟨fr,en,rd,wr2,x6 == 1,fi,0⟩ from rfl] at ax8
     have h8:=h7.locA ax7 hnx.out hna.out hxB hg8
     have s8:=s7.loc hg8 hxw.out
     have own8:=own7.grown hg8 hux.out
     clear h7 s7 own7 ax7 hg8
     go_wp2_with (refine wpList_stv rfl _ _ _ rfl gx 6 _ [.int .i64 x7] rfl rfl rfl _ _ ax8 (by show 6 + 1 ≤ 7; omega) (by kernel_rfl) (fun u hu=>by cases List.mem_singleton.1 hu; rfl) ?_)
     intro w9 ax9 hg9
     rw [show putAt (arC ⟨fr,en,rd,wr2,x6 == 1,fi,0⟩) 6 [.int .i64 x7] = arC ⟨fr,en,rd,wr2,x6 == 1,fi,x7⟩ from rfl] at ax9
     have h9:=h8.locA ax8 hnx.out hna.out hxB hg9
     have s9:=s8.loc hg9 hxw.out
     have own9:=own8.grown hg9 hux.out
     clear h8 s8 own8 ax8 hg9
     go_wp2
     go_meet
     case rel=>exact ⟨rfl,_,a7,c7,l7,ax9,h9,s9,own9,Lib.hid hb4⟩
    ·go_wp2
     go_meet
     case rel=>exact ⟨rfl,_,a4,c4,l4,ax5,h5,s5,hown5,Lib.hid hb4⟩
   case rest=>
    obtain ⟨rfl,X,a6,c6,l6,ax6,h6,s6,own6,hXf⟩:=hcut
    clear h5 s5 hown5 ax5 hcx
    go_wp2_with (refine wpList_ldg _ _ rfl gx 0 rfl rfl _ ax6.rd _ Try.underlying69 rfl area_size ?_)
    refine (rmap_any A X a c _ (have h9:=sl_own own6; ⟨h9.le,h9.mx,h9.nl,h9.rd⟩)).mono ?_
    rintro r w7 ⟨v7,rfl,own7,hb7⟩
    obtain ⟨a7,c7,rfl,_⟩:=own7.rd
    have own7:=own7.mono h6.bs
    have h7:=h6.below hb7
    have s7:=s6.below hb7
    have own6:=own6.below hb7
    clear h6 s6 ax6 hb7 hnu hnu2 hux hnx hna hxw hxB
    by_cases hme:mapE A X = 0
    ·have hmr:=map_rightM hme
     have hnew:Hid ((wrongA (mapL A X)).1 = 0 ∧ (∀ n g,onA (mapL A X) n = some g → g.fi < S.H.fi.length) ∧ (k + 1 = 0 → mapL A X = [] ∧ l6 = l1)):=Lib.hid ⟨wrongA_iff.2 ⟨hmr.1,hmr.2.1⟩,fun n g hg=>by
      rw [hmr.2.2] at hg
      split at hg
      ·cases hg; exact hXf.out
      ·exact hA.out.2.1 n g hg,fun e=>by omega⟩
     clear hmr
     rw [hme]
     go_wp2
     go_roundw
     case rel=>exact ⟨k + 1,mapL A X,a7,c7,a6,c6,l6,by omega,by go_num,rfl,own7,h7,s7,hnew⟩
     case measure=>simp [intOf]; omega
    ·have hnew:Hid ((wrongA A).1 = 0 ∧ (∀ n g,onA A n = some g → g.fi < S.H.fi.length) ∧ (k + 1 = 0 → A = [] ∧ l6 = l1)):=Lib.hid ⟨hA.out.1,hA.out.2.1,fun e=>by omega⟩
     go_wp2
     go_roundw
     case rel=>exact ⟨k + 1,A,a,c,a6,c6,l6,by omega,by go_num,rfl,own6,h7,s7,hnew⟩
     case measure=>simp [intOf]; omega
  ·have hki:¬ (k:Int) < (N:Int):=by omega
   obtain rfl:k = N:=by omega
   have hAl:A.length ≤ 16:=(wrongA_iff.1 hA.out.1).1
   have hc:=hm.blk.cell
   unfold mkC at hc
   dsimp only [MW.lst] at hc
   have hownP:=hm.ma.sp
   dsimp only [MW.lst] at hownP
   go_wp2_with (at_builtin; go_must (refine wpList_appC rfl _ _ 38 rfl B 65 _ 10 224 Try.underlying38 space_info rfl (by decide) _ S.H.sp.length (S.H.sp.flatMap psL) rfl (hownP.alloc _) (some ⟨wr.heap.size,0,none⟩) 1 1 (psL ⟨true,a,c,A,nTs,zTb⟩) rfl (fun h=>(by cases h)) (Nat.le_refl _) rfl (RdV.new _ (psC ⟨true,a,c,A,nTs,zTb⟩) _) (one_toList (by simp [psC,nTs,Value.oneCell'])) (by unfold maxLen; omega) (by omega) (le_alloc' hm.bs _) ?_))
   intro v2 w2 own2 hg2 hsn2
   have hal:=(Below.refl wr.heap.size wr).alloc (Nat.le_refl _) (.cells (psC (⟨true,a,c,A,nTs,zTb⟩:PS)) 65)
   have hm1:=hm.below hal
   have hs1:=hs.below hal
   have hown1:=hown.below hal
   have hownP1:Own (wr.alloc (.cells (psC (⟨true,a,c,A,nTs,zTb⟩:PS)) 65)) B 65 10 (.slice S.H.ap S.H.sp.length S.H.cp) S.H.sp.length (S.H.sp.flatMap psL):=hm1.ma.sp
   have hown2:=grow_own hownP1 hg2 hown1 (by decide)
   have hbk2:=grow_blk hownP1 hg2 hm1.blk (by decide)
   have hps2:∀ p ∈ S.H.sp ++ [(⟨true,a,c,A,nTs,zTb⟩:PS)],Own w2 B 69 7 (.slice p.aa p.ar.length p.ac) p.ar.length (p.ar.flatMap arL) ∧ TbO w2 B (tsC p.ts) p.tb:=fun p hp=>by
    rcases List.mem_append.1 hp with hp | hp
    ·exact ⟨grow_own hownP1 hg2 (hm1.ma.ps p hp).1 (by decide),grow_tb hownP1 hg2 (hm1.ma.ps p hp).2⟩
    ·rw [List.mem_singleton.1 hp]
     exact ⟨hown2,zTb_O _ _⟩
   obtain ⟨a2,c2,rfl,_⟩:=own2.rd
   have hlen2:(S.H.sp ++ [(⟨true,a,c,A,nTs,zTb⟩:PS)]).length = S.H.sp.length + 1:=by simp
   have own2' : Own w2 B 65 10 (.slice a2 (S.H.sp ++ [(⟨true,a,c,A,nTs,zTb⟩:PS)]).length c2) (S.H.sp ++ [(⟨true,a,c,A,nTs,zTb⟩:PS)]).length ((S.H.sp ++ [(⟨true,a,c,A,nTs,zTb⟩:PS)]).flatMap psL):=by
    rw [hlen2,List.flatMap_append]
    simpa using own2
   clear hc hm hs hown hown1 hownP own2 hnu
   go_wp2_with (refine wpList_stv rfl _ _ _ rfl b 11 _ [.slice a2 (S.H.sp.length + 1) c2] rfl rfl rfl _ _ hbk2 (by show 11 + 1 ≤ 13; omega) (by kernel_rfl) (fun u hu=>by cases List.mem_singleton.1 hu; rfl) ?_)
   intro w3 hb3 hg3
   have h3:MkO w3 B b { S.lst al cl ll with H:={ S.H with ap:=a2,cp:=c2,sp:=S.H.sp ++ [(⟨true,a,c,A,nTs,zTb⟩:PS)] } }:=hm1.appP hg2 own2' hps2 (by rw [hlen2]; exact hb3) hg3
   have s3:MS w b S w3 { S.lst al cl ll with H:={ S.H with ap:=a2,cp:=c2,sp:=S.H.sp ++ [(⟨true,a,c,A,nTs,zTb⟩:PS)] } }:=hs1.app hm1 hownP1 (by simp [klM,MW.lst]) hg2 hg3 hsn2 (fun x hx=>by
    rcases hx with hx | hx
    ·exact .inl (.inl hx)
    ·simp only [klM,MW.lst,List.mem_cons,List.not_mem_nil,or_false] at hx
     rcases hx with hx | hx | hx | hx | hx | hx | hx | hx | hx <;> first | exact .inr hx.symm | exact .inl (.inr (by simp [klM,MW.lst,hx])))
   have hT100:S.T.length ≤ 100:=by
    have h9:=hd'.out.ok.len
    have h8:S.H.ma.sp.length = S.H.sp.length:=List.length_map _
    omega
   clear hm1 hs1 hownP1 hbk2 hps2 own2' hb3 hg3 hsn2 hg2 hal hown2
   have hc:=h3.blk.cell
   unfold mkC at hc
   dsimp only [MW.lst] at hc
   have hownT:Own w3 B 95 192 (.slice S.ab S.T.length S.cb) S.T.length (S.T.flatMap tL):=h3.tt
   go_wp2_with (at_builtin; go_must (refine wpList_appE rfl _ _ rfl (by kernel_rfl) B (.slice S.ab S.T.length S.cb) S.T.length (S.T.flatMap tL) rfl hownT rfl hT100 h3.bs ?_))
   intro v4 w4 own4 hg4 hsn4
   have hal3:=(Below.refl w3.heap.size w3).alloc (Nat.le_refl _) (.cells (tL (List.replicate 64 zEn)).toArray 95)
   have h3a:=h3.below hal3
   have s3a:=s3.below hal3
   have hownTa:=hownT.below hal3
   have hbk4:Blk w4 b (mkC { S.lst al cl ll with H:={ S.H with ap:=a2,cp:=c2,sp:=S.H.sp ++ [(⟨true,a,c,A,nTs,zTb⟩:PS)] } }) 89:=by
    rcases grow_T hownTa hg4 with hb0 | ⟨g,cs,hk,_,hg'⟩
    ·exact h3a.blk.ext hb0
    ·exact blk_keep h3a.blk hk (by decide) hg'
   obtain ⟨a4,c4,rfl,_⟩:=own4.rd
   have hlen4:(S.T ++ [List.replicate 64 zEn]).length = S.T.length + 1:=by simp
   have own4' : Own w4 B 95 192 (.slice a4 (S.T ++ [List.replicate 64 zEn]).length c4) (S.T ++ [List.replicate 64 zEn]).length ((S.T ++ [List.replicate 64 zEn]).flatMap tL):=by
    rw [hlen4,List.flatMap_append]
    simpa using own4
   clear hc h3 s3 hownT own4 hal3
   go_wp2_with (refine wpList_stv rfl _ _ _ rfl b 12 _ [.slice a4 (S.T.length + 1) c4] rfl rfl rfl _ _ hbk4 (by show 12 + 1 ≤ 13; omega) (by kernel_rfl) (fun u hu=>by cases List.mem_singleton.1 hu; rfl) ?_)
   intro w5 hb5 hg5
   have h5:MkO w5 B b { S.lst al cl ll with H:={ S.H with ap:=a2,cp:=c2,sp:=S.H.sp ++ [(⟨true,a,c,A,nTs,zTb⟩:PS)] },ab:=a4,cb:=c4,T:=S.T ++ [List.replicate 64 zEn] }:=h3a.appT hg4 own4' (by rw [hlen4]; exact hb5) hg5
   have s5:MS w b S w5 { S.lst al cl ll with H:={ S.H with ap:=a2,cp:=c2,sp:=S.H.sp ++ [(⟨true,a,c,A,nTs,zTb⟩:PS)] },ab:=a4,cb:=c4,T:=S.T ++ [List.replicate 64 zEn] }:=s3a.app h3a hownTa (by simp [klM,MW.lst]) hg4 hg5 hsn4 (fun x hx=>by
    rcases hx with hx | hx
    ·exact .inl (.inl hx)
    ·simp only [klM,MW.lst,List.mem_cons,List.not_mem_nil,or_false] at hx
     rcases hx with hx | hx | hx | hx | hx | hx | hx | hx | hx <;> first | exact .inr hx.symm | exact .inl (.inr (by simp [klM,MW.lst,hx])))
   clear h3a s3a hownTa hbk4 own4' hb5 hg5 hsn4 hg4
   have hma5:({ S.lst al cl ll with H:={ S.H with ap:=a2,cp:=c2,sp:=S.H.sp ++ [(⟨true,a,c,A,nTs,zTb⟩:PS)] },ab:=a4,cb:=c4,T:=S.T ++ [List.replicate 64 zEn] }:MW).H.ma = { S.H.ma with sp:=S.H.ma.sp ++ [⟨true,A,zTb⟩] }:=by simp [MH.ma,PS.sp]
   have hbd5:Bd ({ S.lst al cl ll with H:={ S.H with ap:=a2,cp:=c2,sp:=S.H.sp ++ [(⟨true,a,c,A,nTs,zTb⟩:PS)] },ab:=a4,cb:=c4,T:=S.T ++ [List.replicate 64 zEn] }:MW).H.ma ({ S.lst al cl ll with H:={ S.H with ap:=a2,cp:=c2,sp:=S.H.sp ++ [(⟨true,a,c,A,nTs,zTb⟩:PS)] },ab:=a4,cb:=c4,T:=S.T ++ [List.replicate 64 zEn] }:MW).T:=by
    rw [hma5]
    exact hd'.out.more (s:=⟨true,A,zTb⟩) (by show (S.H.sp.map PS.sp).length < 4; rw [List.length_map]; exact hl4) rfl hA.out.1
   have hmore:Hid (More S { S.lst al cl ll with H:={ S.H with ap:=a2,cp:=c2,sp:=S.H.sp ++ [(⟨true,a,c,A,nTs,zTb⟩:PS)] },ab:=a4,cb:=c4,T:=S.T ++ [List.replicate 64 zEn] }):=Lib.hid ⟨hbd5,fun p hp n g hg=>by
    rcases List.mem_append.1 hp with hp | hp
    ·exact hf'.out p hp n g hg
    ·rw [List.mem_singleton.1 hp] at hg
     exact hA.out.2.1 n g hg,rfl,rfl,rfl,by simp,rfl⟩
   have hTl:S.T.length = S.H.sp.length:=by
    have h9:=hd'.out.ok.len
    have h8:S.H.ma.sp.length = S.H.sp.length:=List.length_map _
    omega
   have hent5:Hid (∀ j:Nat,(entT ({ S.lst al cl ll with H:={ S.H with ap:=a2,cp:=c2,sp:=S.H.sp ++ [(⟨true,a,c,A,nTs,zTb⟩:PS)] },ab:=a4,cb:=c4,T:=S.T ++ [List.replicate 64 zEn] }:MW).T S.H.sp.length j).k = 0):=Lib.hid fun j=>by
    unfold entT lstT
    rw [List.getD_eq_getElem?_getD (l:=S.T ++ _),List.getElem?_append_right (by omega),← hTl,Nat.sub_self]
    show ((List.replicate 64 zEn).getD j zEn).k = 0
    rw [List.getD_eq_getElem?_getD,List.getElem?_replicate]
    split <;> rfl
   have hspn5:Hid (spN ({ S.lst al cl ll with H:={ S.H with ap:=a2,cp:=c2,sp:=S.H.sp ++ [(⟨true,a,c,A,nTs,zTb⟩:PS)] },ab:=a4,cb:=c4,T:=S.T ++ [List.replicate 64 zEn] }:MW).H.ma S.H.sp.length = ⟨true,A,zTb⟩):=Lib.hid (by
    rw [hma5]
    unfold spN
    have h8:S.H.ma.sp.length = S.H.sp.length:=List.length_map _
    rw [List.getD_eq_getElem?_getD,List.getElem?_append_right (by omega),h8,Nat.sub_self]; rfl)
   have hpar5:∀ W,MkO W B b { S.lst al cl ll with H:={ S.H with ap:=a2,cp:=c2,sp:=S.H.sp ++ [(⟨true,a,c,A,nTs,zTb⟩:PS)] },ab:=a4,cb:=c4,T:=S.T ++ [List.replicate 64 zEn] } → RdV W a (A.flatMap arL):=fun W hW=>(sl_own (hW.ma.ps (⟨true,a,c,A,nTs,zTb⟩:PS) (List.mem_append_right _ (List.mem_singleton.2 rfl))).1).rd
   have hspl5:Hid (({ S.lst al cl ll with H:={ S.H with ap:=a2,cp:=c2,sp:=S.H.sp ++ [(⟨true,a,c,A,nTs,zTb⟩:PS)] },ab:=a4,cb:=c4,T:=S.T ++ [List.replicate 64 zEn] }:MW).H.sp.length = S.H.sp.length + 1):=Lib.hid (by simp)
   have hq5:Hid (S.l = [] → A = [] ∧ ({ S.lst al cl ll with H:={ S.H with ap:=a2,cp:=c2,sp:=S.H.sp ++ [(⟨true,a,c,A,nTs,zTb⟩:PS)] },ab:=a4,cb:=c4,T:=S.T ++ [List.replicate 64 zEn] }:MW).l = [] ∧ ({ S.lst al cl ll with H:={ S.H with ap:=a2,cp:=c2,sp:=S.H.sp ++ [(⟨true,a,c,A,nTs,zTb⟩:PS)] },ab:=a4,cb:=c4,T:=S.T ++ [List.replicate 64 zEn] }:MW).H.ma = { S.H.ma with sp:=S.H.ma.sp ++ [⟨true,[],zTb⟩] } ∧ ({ S.lst al cl ll with H:={ S.H with ap:=a2,cp:=c2,sp:=S.H.sp ++ [(⟨true,a,c,A,nTs,zTb⟩:PS)] },ab:=a4,cb:=c4,T:=S.T ++ [List.replicate 64 zEn] }:MW).T = S.T ++ [List.replicate 64 zEn]):=Lib.hid fun e=>by
    have h9:=hq1'.out e
    have hk0:k = 0:=by omega
    have h8:=hA.out.2.2 hk0
    refine ⟨h8.1,by show ll = []; rw [h8.2]; exact h9.2,?_,rfl⟩
    rw [hma5,h8.1]
   have hrd5:=hpar5 _ h5
   have hspl:∀ S9:MW,S9.H.sp = S.H.sp ++ [(⟨true,a,c,A,nTs,zTb⟩:PS)] → S9.H.sp.length = S.H.sp.length + 1:=fun S9 e=>by rw [e]; simp
   have hsp5:({ S.lst al cl ll with H:={ S.H with ap:=a2,cp:=c2,sp:=S.H.sp ++ [(⟨true,a,c,A,nTs,zTb⟩:PS)] },ab:=a4,cb:=c4,T:=S.T ++ [List.replicate 64 zEn] }:MW).H.sp = S.H.sp ++ [(⟨true,a,c,A,nTs,zTb⟩:PS)]:=rfl
   clear hma5 hpar5 hTl
   generalize ({ S.lst al cl ll with H:={ S.H with ap:=a2,cp:=c2,sp:=S.H.sp ++ [(⟨true,a,c,A,nTs,zTb⟩:PS)] },ab:=a4,cb:=c4,T:=S.T ++ [List.replicate 64 zEn] }:MW) = S5 at *
   have hlen5:=hspl S5 hsp5
   have hfi5:S5.H.fi = S.H.fi:=hmore.out.fi
   have hsr:srtF 0 A:=okF_srt0 (wrongA_iff.1 hA.out.1).2
   have hsr':=Lib.hid hsr
   have hc:=h5.blk.cell
   unfold mkC at hc
   rw [hlen5] at hc
   have hwM:IntKind.i64.wrap (((S.H.sp.length + 1:Nat):Int) - 1) = (S.H.sp.length:Int):=by rw [IntWalk.i64_in _ (by omega)]; omega
   have hbd5':=Lib.hid hbd5
   clear hbd5 hsr hspl hlen5 hfi5 hsp5 hT100 hlen4 hlen2
   go_wp2_with fail
   refine (ones_any A a c _ hrd5 (by omega) (fun x hx=>(srtF_ok hsr'.out x hx).1)).mono ?_
   rintro r w6 ⟨rfl,hb6⟩
   have h6:=h5.below hb6
   have s6:=s5.below hb6
   have hspl5':=Lib.hid hspl5
   clear h5 s5 hc hrd5 hwM hb6
   go_upto_region 15 with (fail)
   go_loopw [92] (fun i wr => ∃ (n:Nat) (Sn:MW),n ≤ 64 ∧ i = .int .i64 n ∧ MkO wr B b Sn ∧ MS w b S wr Sn ∧ Hid (Kep S5 Sn ∧ Bd Sn.H.ma Sn.T ∧ (∀ j:Nat,n ≤ j → (entT Sn.T S.H.sp.length j).k = 0) ∧ (A = [] → Sn = S5))) (fun i _=>64 - (intOf i).toNat)
   case atStart=>exact ⟨0,S5,Nat.zero_le _,rfl,h6,s6,Lib.hid ⟨.refl _,hbd5'.out,fun j _=>hent5.out j,fun _=>rfl⟩⟩
   case round=>
    clear h6 s6
    obtain ⟨n,Sn,hn,rfl,hm,hs,hN⟩:=hrel
    by_cases hn64:n < 64
    ·have hni:(n:Int) < 64:=by omega
     cases hfk:onesF A n with
     | none=>
      have hix:=idx_one (onesF A) n hn64 none hfk
      unfold oneC oR oW oH oF oP at hix
      have hfk':=Lib.hid hfk
      clear hfk
      go_upto_region 17 with (fail)
      refine abs1 (fun W=>Code.wp _ _ _ _ W) fun W1 hb1 hx1 hs1 => ?_
      have hcx:=hx1.cell
      have hm1:=hm.below hb1
      have hs2:=hs.below hb1
      clear hs1 hb1 hm hs hix
      go_wp2
      go_roundw
      case rel=>exact ⟨n + 1,Sn,by omega,by go_num,hm1,hs2,Lib.hid ⟨hN.out.1,hN.out.2.1,fun j hj=>hN.out.2.2.1 j (by omega),hN.out.2.2.2⟩⟩
      case measure=>simp [intOf]; omega
     | some g=>
      have hix:=idx_one (onesF A) n hn64 (some g) hfk
      unfold oneC oR oW oH oF oP at hix
      dsimp only [Option.isSome] at hix
      have hfk':=Lib.hid hfk
      clear hfk
      go_upto_region 17 with (fail)
      refine abs1 (fun W=>Code.wp _ _ _ _ W) fun W1 hb1 hx1 hs1 => ?_
      have hcx:=hx1.cell
      have hm1:=hm.below hb1
      have hs2:=hs.below hb1
      clear hs1 hb1 hm hs hix
      have hgA:onA A n = some g:=by rw [← onesF_on hsr'.out]; exact hfk'.out
      have hpi:=pg_in hsr'.out hgA
      have hgA':=Lib.hid hgA
      have hpi':=Lib.hid hpi
      have hspS:Hid (spN Sn.H.ma S.H.sp.length = ⟨true,A,zTb⟩):=Lib.hid (by
       rw [← hspn5.out]
       show (Sn.H.sp.map PS.sp).getD _ zSp = (S5.H.sp.map PS.sp).getD _ zSp
       rw [hN.out.1.sp])
      clear hgA hpi
      go_wp2_with (refine wpList_ldg _ _ rfl wr.heap.size 0 rfl rfl _ hx1.rd _ Try.underlying106 rfl one_size ?_)
      refine (renter_any Sn S.H.sp.length n g B b _ hm1 hN.out.2.1 (by rw [hN.out.1.sp,hspl5'.out.out]; omega) hn64 (hN.out.2.2.1 n (Nat.le_refl _)) (by rw [hspS.out]; exact hgA'.out) (by rw [hN.out.1.fi,hmore.out.fi]; exact hA.out.2.1 _ _ hgA'.out) hpi'.out.1 (fun h=>by
       rcases Int.lt_or_le g.fi 0 with h9 | h9
       ·have:=(hpi'.out.2.2.2.2.1 h9).1
        rw [h] at this; simp at this
       ·exact h9)).mono ?_
      rintro r w7 ⟨S7,rfl,h7,s7,k7,bd7,ent7⟩
      have hs7:=hs2.trans s7
      have hN7:Hid (Kep S5 S7 ∧ Bd S7.H.ma S7.T ∧ (∀ j:Nat,n + 1 ≤ j → (entT S7.T S.H.sp.length j).k = 0) ∧ (A = [] → S7 = S5)):=Lib.hid ⟨hN.out.1.trans k7,bd7,fun j hj=>by rw [ent7 _ _ (by omega)]; exact hN.out.2.2.1 j (by omega),fun e=>by
       have h9:=hgA'.out
       rw [e] at h9; cases h9⟩
      clear hm1 hs2 s7 k7 bd7 ent7 hx1 hcx
      go_wp2
      go_roundw
      case rel=>exact ⟨n + 1,S7,by omega,by go_num,h7,hs7,hN7⟩
      case measure=>simp [intOf]; omega
    ·have hni:¬ (n:Int) < 64:=by omega
     go_wp2
     refine bodyPost_ret (v:=.tuple #[]) (by simp [results,go_sem,Try.results33]) rfl ?_
     have hK:=hN.out.1
     have hM:=hmore.out
     refine ⟨Sn,rfl,hm,hs,⟨hN.out.2.1,fun p hp n g hg => ?_,hK.fi.trans hM.fi,hK.ct.trans hM.ct,hK.dk.trans hM.dk,by rw [hK.sp]; exact hM.sp,hK.fl.trans hM.fs⟩,fun e => ?_⟩
     ·rw [hK.sp] at hp
      rw [hK.fi]
      exact hM.fm p hp n g hg
     ·have h9:=hq5.out e
      rw [hN.out.2.2.2 h9.1]
      exact h9.2
theorem MkO.putD {w w' : World} {B b : Nat} {S : MW} (h : MkO w B b S) {g : Nat} {cs : Array Value} (hk : Blk w g cs 50) (hgB : B ≤ g) (hga : oB S.H.db = some g) (hg : w.grownBy w' (some g)) {l : List Page} (hl : l.length = S.H.dk.blocks.length) (ho : Own w' B 50 8 (.slice S.H.db l.length S.H.cdb) l.length (l.flatMap pgL)) :
    MkO w' B b { S with H := { S.H with dk := ⟨l, S.H.dk.queue⟩ } } :=
  ⟨by
    have h1 := blk_keep h.blk hk (by decide) hg
    have e : mkC { S with H := { S.H with dk := ⟨l, S.H.dk.queue⟩ } } = mkC S := by unfold mkC; rw [show ({ S.H with dk := ⟨l, S.H.dk.queue⟩ } : MH).dk.blocks.length = S.H.dk.blocks.length from hl]
    rw [e]; exact h1, h.ge,
   ⟨own_keep h.ma.fr hk (by decide) hg, own_keep h.ma.sl hk (by decide) hg, ⟨h.ma.sw.b.grown hg (fun g' hg' e => by
      cases e
      rw [oB_eq] at hg'
      exact h.n1 _ hg' hga), own_keep h.ma.sw.q hk (by decide) hg⟩, ⟨ho, own_keep h.ma.dk.q hk (by decide) hg⟩, h.ma.st.keep hk (by decide) (by decide) hg, own_keep h.ma.ca hk (by decide) hg, own_keep h.ma.sp hk (by decide) hg, fun p hp => ⟨own_keep (h.ma.ps p hp).1 hk (by decide) hg, (h.ma.ps p hp).2.keep hk (by decide) hg⟩, h.ma.c64⟩,
   own_keep h.tt hk (by decide) hg, h.rd.keep h.ra h.bs hg hgB, h.ra, h.n1, h.n2, h.n3⟩
theorem MkO.appQ {w w1 w2:World} {B b:Nat} {S:MW} (h:MkO w B b S) (hg:w.grownBy w1 (Value.slice S.H.dq S.H.dk.queue.length S.H.cdq).ownBlock) {a:Option Addr} {c:Nat} {l:List (Int × Page)} (ho:Own w1 B 93 9 (.slice a l.length c) l.length (l.flatMap puL))
  (hb:Blk w2 b (putAt (mkC S) 7 [.slice a l.length c]) 89) (hg2:w1.grownBy w2 (some b)) :
  MkO w2 B b { S with H:={ S.H with dq:=a,cdq:=c,dk:=⟨S.H.dk.blocks,l⟩ } }:=by
 have hq0:Own w B 93 9 (.slice S.H.wq S.H.sw.queue.length S.H.cwq) S.H.sw.queue.length (S.H.sw.queue.flatMap puL):=h.ma.sw.q
 have key:Blk w1 b (mkC S) 89 ∧ Own w1 B 59 13 (.slice S.H.af S.H.m.fs.length S.H.cf) S.H.m.fs.length (S.H.m.fs.flatMap frL) ∧ Own w1 B 3 1 (.slice S.H.asl S.H.sl.length S.H.csl) S.H.sl.length (S.H.sl.map inV) ∧
   DOwn w1 B (.slice S.H.wb S.H.sw.blocks.length S.H.cwb) (.slice S.H.wq S.H.sw.queue.length S.H.cwq) S.H.sw ∧ Own w1 B 50 8 (.slice S.H.db S.H.dk.blocks.length S.H.cdb) S.H.dk.blocks.length (S.H.dk.blocks.flatMap pgL) ∧ FsO w1 B (.slice S.H.ai S.H.fi.length S.H.ci) S.H.fi ∧
   Own w1 B 85 3 (.slice S.H.ac S.H.ca.length S.H.cc) S.H.ca.length (S.H.ca.flatMap ccL) ∧ Own w1 B 65 10 (.slice S.H.ap S.H.sp.length S.H.cp) S.H.sp.length (S.H.sp.flatMap psL) ∧
   (∀ p ∈ S.H.sp,Own w1 B 69 7 (.slice p.aa p.ar.length p.ac) p.ar.length (p.ar.flatMap arL) ∧ TbO w1 B (tsC p.ts) p.tb) ∧ Own w1 B 95 192 (.slice S.ab S.T.length S.cb) S.T.length (S.T.flatMap tL) ∧ SlR w1 S.al S.cl S.l.length (S.l.map byV):=by
  rcases grow_T h.ma.dk.q hg with hb0 | ⟨g,cs,hk,hga,hg'⟩
  ·have h1:=h.below hb0
   exact ⟨h1.blk,h1.ma.fr,h1.ma.sl,h1.ma.sw,h1.ma.dk.b,h1.ma.st,h1.ma.ca,h1.ma.sp,h1.ma.ps,h1.tt,h1.rd⟩
  ·exact ⟨blk_keep h.blk hk (by decide) hg',own_keep h.ma.fr hk (by decide) hg',own_keep h.ma.sl hk (by decide) hg',⟨own_keep h.ma.sw.b hk (by decide) hg',hq0.grown hg' (fun g' he=>by rw [h.n3] at he; cases he)⟩,own_keep h.ma.dk.b hk (by decide) hg',h.ma.st.keep hk (by decide) (by decide) hg',own_keep h.ma.ca hk (by decide) hg',own_keep h.ma.sp hk (by decide) hg',fun p hp=>⟨own_keep (h.ma.ps p hp).1 hk (by decide) hg',(h.ma.ps p hp).2.keep hk (by decide) hg'⟩,own_keep h.tt hk (by decide) hg',h.rd.keep h.ra h.bs hg' (own_oB h.ma.dk.q hga).1⟩
 obtain ⟨k0,k1,k2,k3,k4,k5,k6,k7,k8,k9,k10⟩:=key
 exact ⟨hb,h.ge,⟨own_keep k1 k0 (by decide) hg2,own_keep k2 k0 (by decide) hg2,k3.keep k0 (by decide) (by decide) hg2,⟨own_keep k4 k0 (by decide) hg2,own_keep ho k0 (by decide) hg2⟩,k5.keep k0 (by decide) (by decide) hg2,own_keep k6 k0 (by decide) hg2,own_keep k7 k0 (by decide) hg2,fun p hp=>⟨own_keep (k8 p hp).1 k0 (by decide) hg2,(k8 p hp).2.keep k0 (by decide) hg2⟩,h.ma.c64⟩,
  own_keep k9 k0 (by decide) hg2,k10.keep h.ra (Nat.le_trans h.ge (Nat.le_of_lt k0.lt)) hg2 h.ge,h.ra,h.n1,h.n2,h.n3⟩
theorem MkO.appFi {w w1 w2:World} {B b:Nat} {S:MW} (h:MkO w B b S) {p:PF} (hp:Own w B 3 1 (pfV p) p.l.length (p.l.map inV)) (hap:∀ (i:Nat) q,S.H.fi[i]? = some q → Apart (pfV q) (pfV p)) (hasl:∀ x,oB p.a = some x → oB S.H.asl ≠ some x)
  (hg:w.grownBy w1 (Value.slice S.H.ai S.H.fi.length S.H.ci).ownBlock) {a:Option Addr} {c:Nat} (ho:Own w1 B 71 2 (.slice a (S.H.fi ++ [p]).length c) (S.H.fi.length + 1) (S.H.fi.flatMap pfL ++ pfL p))
  (hb:Blk w2 b (putAt (mkC S) 8 [.slice a (S.H.fi ++ [p]).length c]) 89) (hg2:w1.grownBy w2 (some b)):MkO w2 B b { S with H:={ S.H with ai:=a,ci:=c,fi:=S.H.fi ++ [p] } }:=by
 have hF:FsO w1 B (.slice a (S.H.fi ++ [p]).length c) (S.H.fi ++ [p]):=h.ma.st.app ho hp hg hap
 have key:Blk w1 b (mkC S) 89 ∧ Own w1 B 59 13 (.slice S.H.af S.H.m.fs.length S.H.cf) S.H.m.fs.length (S.H.m.fs.flatMap frL) ∧ Own w1 B 3 1 (.slice S.H.asl S.H.sl.length S.H.csl) S.H.sl.length (S.H.sl.map inV) ∧
   DOwn w1 B (.slice S.H.wb S.H.sw.blocks.length S.H.cwb) (.slice S.H.wq S.H.sw.queue.length S.H.cwq) S.H.sw ∧ DOwn w1 B (.slice S.H.db S.H.dk.blocks.length S.H.cdb) (.slice S.H.dq S.H.dk.queue.length S.H.cdq) S.H.dk ∧
   Own w1 B 85 3 (.slice S.H.ac S.H.ca.length S.H.cc) S.H.ca.length (S.H.ca.flatMap ccL) ∧ Own w1 B 65 10 (.slice S.H.ap S.H.sp.length S.H.cp) S.H.sp.length (S.H.sp.flatMap psL) ∧
   (∀ p ∈ S.H.sp,Own w1 B 69 7 (.slice p.aa p.ar.length p.ac) p.ar.length (p.ar.flatMap arL) ∧ TbO w1 B (tsC p.ts) p.tb) ∧ Own w1 B 95 192 (.slice S.ab S.T.length S.cb) S.T.length (S.T.flatMap tL) ∧ SlR w1 S.al S.cl S.l.length (S.l.map byV):=by
  rcases grow_T h.ma.st.own hg with hb0 | ⟨g,cs,hk,hga,hg'⟩
  ·have h1:=h.below hb0
   exact ⟨h1.blk,h1.ma.fr,h1.ma.sl,h1.ma.sw,h1.ma.dk,h1.ma.ca,h1.ma.sp,h1.ma.ps,h1.tt,h1.rd⟩
  ·exact ⟨blk_keep h.blk hk (by decide) hg',own_keep h.ma.fr hk (by decide) hg',own_keep h.ma.sl hk (by decide) hg',h.ma.sw.keep hk (by decide) (by decide) hg',h.ma.dk.keep hk (by decide) (by decide) hg',own_keep h.ma.ca hk (by decide) hg',own_keep h.ma.sp hk (by decide) hg',fun p hp=>⟨own_keep (h.ma.ps p hp).1 hk (by decide) hg',(h.ma.ps p hp).2.keep hk (by decide) hg'⟩,own_keep h.tt hk (by decide) hg',h.rd.keep h.ra h.bs hg' (own_oB h.ma.st.own hga).1⟩
 obtain ⟨k0,k1,k2,k3,k4,k6,k7,k8,k9,k10⟩:=key
 exact ⟨hb,h.ge,⟨own_keep k1 k0 (by decide) hg2,own_keep k2 k0 (by decide) hg2,k3.keep k0 (by decide) (by decide) hg2,k4.keep k0 (by decide) (by decide) hg2,hF.keep k0 (by decide) (by decide) hg2,own_keep k6 k0 (by decide) hg2,own_keep k7 k0 (by decide) hg2,fun p hp=>⟨own_keep (k8 p hp).1 k0 (by decide) hg2,(k8 p hp).2.keep k0 (by decide) hg2⟩,h.ma.c64⟩,
  own_keep k9 k0 (by decide) hg2,k10.keep h.ra (Nat.le_trans h.ge (Nat.le_of_lt k0.lt)) hg2 h.ge,h.ra,h.n1,fun q hq x hx=>by
   rcases List.mem_append.1 hq with hq | hq
   ·exact h.n2 q hq x hx
   ·rw [List.mem_singleton.1 hq] at hx
    exact hasl x hx,h.n3⟩
theorem MkO.putP {w w' : World} {B b : Nat} {S : MW} (h : MkO w B b S) {g : Nat} {cs : Array Value} (hk : Blk w g cs 65) (hgB : B ≤ g) (hg : w.grownBy w' (some g)) {sp : List PS} (hl : sp.length = S.H.sp.length) (ho : Own w' B 65 10 (.slice S.H.ap sp.length S.H.cp) sp.length (sp.flatMap psL))
    (hps : ∀ p ∈ sp, Own w B 69 7 (.slice p.aa p.ar.length p.ac) p.ar.length (p.ar.flatMap arL) ∧ TbO w B (tsC p.ts) p.tb) : MkO w' B b { S with H := { S.H with sp := sp } } :=
  ⟨by
    have h1 := blk_keep h.blk hk (by decide) hg
    have e : mkC { S with H := { S.H with sp := sp } } = mkC S := by unfold mkC; rw [show ({ S.H with sp := sp } : MH).sp.length = S.H.sp.length from hl]
    rw [e]; exact h1, h.ge,
   ⟨own_keep h.ma.fr hk (by decide) hg, own_keep h.ma.sl hk (by decide) hg, h.ma.sw.keep hk (by decide) (by decide) hg, h.ma.dk.keep hk (by decide) (by decide) hg, h.ma.st.keep hk (by decide) (by decide) hg, own_keep h.ma.ca hk (by decide) hg, ho, fun p hp => ⟨own_keep (hps p hp).1 hk (by decide) hg, (hps p hp).2.keep hk (by decide) hg⟩, h.ma.c64⟩,
   own_keep h.tt hk (by decide) hg, h.rd.keep h.ra h.bs hg hgB, h.ra, h.n1, h.n2, h.n3⟩
theorem MkO.setH {w w' : World} {B b : Nat} {S : MW} (h : MkO w B b S) {x : Int} (hb : Blk w' b (putAt (mkC S) 2 [.int .i64 x]) 89) (hg : w.grownBy w' (some b)) : MkO w' B b { S with H := { S.H with m := ⟨S.H.m.fs, x⟩ } } :=
  ⟨hb, h.ge,
   have k := h.ma.keep h.blk (by decide) hg
   ⟨k.fr, k.sl, k.sw, k.dk, k.st, k.ca, k.sp, k.ps, k.c64⟩, own_keep h.tt h.blk (by decide) hg, h.rd.keep h.ra h.bs hg h.ge, h.ra, h.n1, h.n2, h.n3⟩
end Go.Proofs.Ytkjobhcnlppcnaa
namespace Pw
open Go Go.RowKit
theorem wp_growR {P:Program} {ops:Array Oper} {Q:Exit → Act → World → Prop} {id:Nat} {a0:Act} {w0:World} (m:Nat) (l:List Rel) (J:(Nat → Bool) → (Nat → Value) → World → Prop) (hst:∀ L y w w',Below w.heap.size w w' → J L y w → J L y w') (hJ0:∀ y,J (fun _=>false) y w0) (hfix:Fixed l) (hm:P.follows .mixedOrders = true) (ops' : Array Oper) (hs:strip ops = ops') (hok:growOk ops' = true) (ht:tailOkT ops' m = true) (hmn:m ≤ ops'.size)
  (n:Nat) (hn:a0.tmps.size = n) (hsz:growSize ops' n = true)
  (hstep:AllFrom (AskedQ P ops' a0 J l) 0 (ops'.toList.take m))
  (hend:∀ y w,J (fun i=>decide (i < m)) y w → (∀ i,i < m → rl l i (y i) w) → wpList P ops' Q (ops'.toList.drop m) { a0 with tmps:=lay (fun i=>decide (i < m)) y ops'.toList 0 a0.tmps } w) :
  (Code.region id ops true).wp P Q a0 w0:=by
 refine wp_region_any hm (strip_any _ _ _ _ ?_)
 have h9:=any_growL m l J hst hJ0 hfix hok ht hmn n hn hsz hstep hend
 subst hs
 rw [strip_size] at h9
 exact h9
end Pw
namespace Go.Proofs.Ytkjobhcnlppcnaa
open Go.RowKit Go.Maps Pw
def jApp (S:MW) (B b:Nat) (w:World) (P:PS):(Nat → Bool) → (Nat → Value) → World → Prop:=fun L y W=>
 (∀ k,10 ≤ k → k < 16 → L (k + 1) = true → L k = true) ∧ (L 16 = true → L 5 = true) ∧
 (L 16 = false → MkO W B b S ∧ MS w b S W S) ∧
 (L 15 = true → L 16 = false → ∃ a e,y 15 = .slice a 1 e ∧ SlR W a e 1 (psL P)) ∧
 (L 16 = true → ∃ w1,MkO w1 B b S ∧ MS w b S w1 S ∧ w1.grownBy W (Value.slice S.H.ap S.H.sp.length S.H.cp).ownBlock ∧ Own W B 65 10 (y 16) (S.H.sp.length + 1) (S.H.sp.flatMap psL ++ psL P) ∧ SameOrNew w1 (.slice S.H.ap S.H.sp.length S.H.cp) (y 16))
theorem grown_on {w w1 w2:World} {row:Option Nat} (hg:w.grownBy w1 row) (hb:Below w1.heap.size w1 w2):w.grownBy w2 row:=
 ⟨hb.os.trans hg.os,hb.tape.trans hg.tape,hb.output.trans hg.output,Nat.le_trans hg.size hb.size,fun k hk hn=>(hb.block k (Nat.lt_of_lt_of_le hk hg.size)).trans (hg.block k hk hn)⟩
theorem jApp_st {S:MW} {B b:Nat} {w:World} {P:PS}:∀ L y W W',Below W.heap.size W W' → jApp S B b w P L y W → jApp S B b w P L y W':=
 fun _ _ _ _ hb ⟨h1,h2,h3,h4,h5⟩=>⟨h1,h2,fun e=>⟨(h3 e).1.below hb,(h3 e).2.below hb⟩,fun e1 e2=>by
  obtain ⟨a,e,k1,k2⟩:=h4 e1 e2
  exact ⟨a,e,k1,k2.below hb⟩,fun e=>by
  obtain ⟨w1,k1,k2,k3,k4,k5⟩:=h5 e
  exact ⟨w1,k1,k2,grown_on k3 hb,k4.below hb,k5⟩⟩
theorem jApp_up {S:MW} {B b:Nat} {w W:World} {P:PS} {L:Nat → Bool} {y:Nat → Value} {i:Nat} {v:Value} (hi:i ≠ 15 ∧ i ≠ 16) (hd:∀ k,10 ≤ k → k < 16 → k + 1 = i → L k = true) (h:jApp S B b w P L y W):jApp S B b w P (updL L i) (updV y i v) W:=by
 obtain ⟨h1,h2,h3,h4,h5⟩:=h
 have e15:updL L i 15 = L 15:=by unfold updL; rw [if_neg (fun e=>hi.1 e.symm)]
 have e16:updL L i 16 = L 16:=by unfold updL; rw [if_neg (fun e=>hi.2 e.symm)]
 have y15:updV y i v 15 = y 15:=by unfold updV; rw [if_neg (fun e=>hi.1 e.symm)]
 have y16:updV y i v 16 = y 16:=by unfold updV; rw [if_neg (fun e=>hi.2 e.symm)]
 have up:∀ k,L k = true → updL L i k = true:=fun k hk=>by unfold updL; split <;> simp [hk]
 refine ⟨fun k k1 k2 k3 => ?_,fun e=>up 5 (h2 (by rw [← e16]; exact e)),by rw [e16]; exact h3,by rw [e15,e16,y15]; exact h4,by rw [e16,y16]; exact h5⟩
 by_cases e:k + 1 = i
 ·exact up k (hd k k1 k2 e)
 ·refine up k (h1 k k1 k2 ?_)
  unfold updL at k3
  rw [if_neg e] at k3
  exact k3
theorem jApp_15 {S:MW} {B b:Nat} {w W W' : World} {P:PS} {L:Nat → Bool} {y:Nat → Value} {a:Option Addr} {e:Nat} (hb:Below W.heap.size W W') (h14:L 14 = true) (h:jApp S B b w P L y W) (hr:SlR W' a e 1 (psL P)):jApp S B b w P (updL L 15) (updV y 15 (.slice a 1 e)) W':=by
 obtain ⟨h1,h2,h3,h4,h5⟩:=jApp_st _ _ _ _ hb h
 have up:∀ k,L k = true → updL L 15 k = true:=fun k hk=>by unfold updL; split <;> simp [hk]
 refine ⟨fun k k1 k2 k3 => ?_,fun e=>h2 e,h3,fun _ _=>⟨a,e,rfl,hr⟩,h5⟩
 by_cases e:k + 1 = 15
 ·obtain rfl:k = 14:=by omega
  exact up 14 h14
 ·refine up k (h1 k k1 k2 ?_)
  unfold updL at k3
  rw [if_neg e] at k3
  exact k3
theorem jApp_16 {S:MW} {B b:Nat} {w W W' : World} {P:PS} {L:Nat → Bool} {y:Nat → Value} {v:Value} (h15:L 15 = true) (h5' : L 5 = true) (h16:L 16 = false) (h:jApp S B b w P L y W) (hg:W.grownBy W' (Value.slice S.H.ap S.H.sp.length S.H.cp).ownBlock)
  (ho:Own W' B 65 10 v (S.H.sp.length + 1) (S.H.sp.flatMap psL ++ psL P)) (hs:SameOrNew W (.slice S.H.ap S.H.sp.length S.H.cp) v):jApp S B b w P (updL L 16) (updV y 16 v) W':=by
 obtain ⟨h1,h2,h3,h4,h5⟩:=h
 have up:∀ k,L k = true → updL L 16 k = true:=fun k hk=>by unfold updL; split <;> simp [hk]
 refine ⟨fun k k1 k2 k3 => ?_,fun _=>h5',fun e=>(by cases e),fun _ e=>(by cases e),fun _=>⟨W,(h3 h16).1,(h3 h16).2,hg,ho,hs⟩⟩
 by_cases e:k + 1 = 16
 ·obtain rfl:k = 15:=by omega
  exact up 15 h15
 ·refine up k (h1 k k1 k2 ?_)
  unfold updL at k3
  rw [if_neg e] at k3
  exact k3
theorem jApp_at {S:MW} {B b:Nat} {w W:World} {P:PS} {L:Nat → Bool} {y:Nat → Value} (h:jApp S B b w P L y W) {i:Nat} (hi:L i = false) (hk:i = 5 ∨ (10 ≤ i ∧ i ≤ 16)):MkO W B b S ∧ MS w b S W S:=by
 refine h.2.2.1 ?_
 cases e:L 16 with
 | false=>rfl
 | true=>
  exfalso
  rcases hk with rfl | ⟨k1,k2⟩
  ·rw [h.2.1 e] at hi; cases hi
  ·have:∀ d,d ≤ 6 → L (16 - d) = true:=by
    intro d
    induction d with
    | zero=>intro _; exact e
    | succ d ih=>intro hd; exact h.1 (16 - (d + 1)) (by omega) (by omega) (by rw [show 16 - (d + 1) + 1 = 16 - d by omega]; exact ih (by omega))
   have h9:=this (16 - i) (by omega)
   rw [show 16 - (16 - i) = i by omega,hi] at h9
   cases h9
def ForkR (S:MW) (B b:Nat) (w:World) (r:Ending) (w' : World):Prop:=∃ S',r = .returned (.tuple #[]) ∧ MkO w' B b S' ∧ MS w b S w' S' ∧ More S S'
theorem tL_part (t:List En) (k:Nat) (hk:k < 64):(tL t).toArray.extract (k * 3) (k * 3 + 3) = enC (t.getD k zEn):=by
 apply Array.ext_getElem?
 intro j
 rw [Array.getElem?_extract]
 have hs:(tL t).toArray.size = 192:=by simp [tL_len]
 by_cases hj:j < 3
 ·rw [if_pos (by omega)]
  have:=tL_at t k j hk hj
  simpa [enL] using this
 ·rw [if_neg (by omega),Array.getElem?_eq_none (by show 3 ≤ j; omega)]
theorem entry_size3:(Try.prog.info? 67).map (·.size) = some 3:=by kernel_rfl
theorem idx_ent (t:List En) (k:Nat) (hk:k < 64) (e:En) (he:t.getD k zEn = e) (w:World):(Instr.index 95 (.agg (tL t).toArray) (.int .i64 k)).run Try.prog w = .ok (.agg (enC e)) w:=
 run_index_agg' Try.underlying95 Try.underlying67 rfl entry_size3 _ k _ hk (by rw [← he]; exact tL_part t k hk) _ w
theorem run_stv {P:Program} {ρ:Operand → Value} {w:World} {op:Oper} (ty:TypeId) (x y:Operand) (ho:op.op = .store ty x y)
  (b o:Nat) (v:Value) (cells:List Value) (hx:ρ x = .pointer (some ⟨b,o,none⟩)) (hy:ρ y = v) (hc:v.cells.toList = cells) (cur:Array Value) (T:TypeId) (hg:Blk w b cur T)
  (hfit:o + cells.length ≤ cur.size) (hi:(P.info? ty).map (·.size) = some cells.length) (h1:∀ u ∈ cells,u.oneCell' = true):(execOp ρ op).run P w = .ok .skip (w.setCells b o cells):=by
 have hst:=run_storeCells_cells (P:=P) b o cells 0 w
  (fun j hj=>by rw [Nat.add_zero,hg.cell]; simp [show o + j < cur.size by omega]) (fun j hj=>hg.free _) h1
 simp only [Nat.add_zero] at hst
 have hsv:(storeVar ty ⟨b,o,none⟩ v).run P w = .ok () (w.setCells b o cells):=by
  cases hq:P.info? ty with
  | none=>simp [hq] at hi
  | some i=>
   have hs:i.size = cells.length:=by simpa [hq] using hi
   have hv:v.cells.size = cells.length:=by rw [← hc]; simp
   simp [storeVar,Go.sizeOf,typeInfo,hq,hs,hv,hc,hst]
 unfold execOp
 simp only [ho,hx,hy,Instr.storeAt,Instr.sureAddr,Sem.run_bind,Sem.run_pure,Result.andThen_ok,hsv]
theorem asked_stQ {P:Program} {ops:Array Oper} {ρ:Operand → Value} {o:Oper} {w w' : World} {l:List Rel} {i:Nat} {J:(Nat → Bool) → (Nat → Value) → World → Prop} {L:Nat → Bool} {y:Nat → Value} (hw:Region.wanted o (says ρ ops) = true) (hrun:(execOp ρ o).run P w = .ok .skip w')
  (hJ:J (updL L i) (updV y i undef) w') (hR:rl l i undef w') :
  if Region.wanted o (says ρ ops) = true then GivesR P o ρ w (fun v w'=>J (updL L i) (updV y i v) w' ∧ rl l i v w') else J (updL L i) (updV y i undef) w ∧ rl l i undef w:=by
 rw [if_pos hw]
 unfold GivesR
 rw [hrun]
 exact ⟨hJ,hR⟩
def jTwo (S0 S S' : MW) (B b:Nat) (w:World) (gx gf:Nat) (e:En) (F:Array Value):(Nat → Bool) → (Nat → Value) → World → Prop:=fun L _ W=>
 (Blk W gx (enC e) 67 ∧ Blk W gf F 107) ∧ (L 14 = false → MkO W B b S ∧ MS w b S0 W S) ∧ (L 14 = true → MkO W B b S' ∧ MS w b S0 W S')
theorem jTwo_st {S0 S S' : MW} {B b:Nat} {w:World} {gx gf:Nat} {e:En} {F:Array Value}:∀ L y W W',Below W.heap.size W W' → jTwo S0 S S' B b w gx gf e F L y W → jTwo S0 S S' B b w gx gf e F L y W':=
 fun _ _ _ _ hb ⟨h1,h2,h3⟩=>⟨⟨h1.1.ext hb,h1.2.ext hb⟩,fun e=>⟨(h2 e).1.below hb,(h2 e).2.below hb⟩,fun e=>⟨(h3 e).1.below hb,(h3 e).2.below hb⟩⟩
theorem jTwo_ab {S0 S S' : MW} {B b:Nat} {w W:World} {gx gf:Nat} {e:En} {F:Array Value} {L:Nat → Bool} {y:Nat → Value} (h:jTwo S0 S S' B b w gx gf e F L y W) (hk:(mkC S')[12]? = (mkC S)[12]?):W.cell? ⟨b,12,none⟩ = (mkC S)[12]?:=by
 cases hL:L 14 with
 | false=>exact (h.2.1 hL).1.blk.cell 12
 | true=>rw [← hk]; exact (h.2.2 hL).1.blk.cell 12
theorem ent_two {m:Ma} {T:List (List En)} (ok:OkT m T) (hl:m.sp.length = 2) {n:Nat} {x:En} (hn:n < 64) (hx:entE x = 0) (q j:Nat) (hj:j ≠ n):entT (setL (setL T 0 n x) 1 n x) q j = entT T q j:=by
 rw [entT_set (ok.set (p:=0) (by omega) hx) (by omega) hn,if_neg (fun h=>hj h.2),entT_set ok (by omega) hn,if_neg (fun h=>hj h.2)]
theorem run_idxS {ρ:Operand → Value} {o:Oper} {w:World} {x y:Operand} {b off n c i:Nat} {k:IntKind} (ho:o.op = .indexAddr 29 x y) (hx:ρ x = .slice (some ⟨b,off,none⟩) n c) (hy:ρ y = .int k (i:Int)) (hi:i < n) :
  (execOp ρ o).run Try.prog w = .ok (.value (.pointer (some ⟨b,off + i,none⟩))) w:=by
 have:=run_idx (P:=Try.prog) (w:=w) ho hx hy hi Try.underlying29 (show (Try.prog.info? 3).map (·.size) = some 1 by kernel_rfl)
 rw [this,Nat.mul_one]
theorem MkO.locE {w w' : World} {B b:Nat} {S:MW} (h:MkO w B b S) {g:Nat} {cs:Array Value} (hk:Blk w g cs 67) (hn:¬ kbM b S g) (hsp:∀ p ∈ S.H.sp,∀ k v,k < 8 → (tsC p.ts)[k]? = some v → v.ownBlock ≠ some g) (hgB:B ≤ g) (hg:w.grownBy w' (some g)):MkO w' B b S:=by
 have hne:∀ {a:Option Addr},oB a ∈ klM S → ∀ n c g',(Value.slice a n c).ownBlock = some g' → some g ≠ some g':=fun hm n c g' he e=>by
  cases e
  rw [oB_eq] at he
  exact hn (.inr (by rw [← he]; exact hm))
 exact ⟨h.blk.grown hg (fun e=>hn (.inl (Option.some.inj e))),h.ge,⟨h.ma.fr.grown hg (hne (by simp [klM]) _ _),h.ma.sl.grown hg (hne (by simp [klM]) _ _),⟨h.ma.sw.b.grown hg (hne (by simp [klM]) _ _),h.ma.sw.q.grown hg (fun g' he=>by rw [h.n3] at he; cases he)⟩,⟨h.ma.dk.b.grown hg (hne (by simp [klM]) _ _),h.ma.dk.q.grown hg (hne (by simp [klM]) _ _)⟩,
  ⟨h.ma.st.own.grown hg (hne (by simp [klM]) _ _),fun i p hp=>own_keep (h.ma.st.each i p hp) hk (by decide) hg,h.ma.st.apart⟩,h.ma.ca.grown hg (hne (by simp [klM]) _ _),h.ma.sp.grown hg (hne (by simp [klM]) _ _),fun p hp=>⟨own_keep (h.ma.ps p hp).1 hk (by decide) hg,⟨(h.ma.ps p hp).2.sz,fun k hk8=>by
   obtain ⟨v,h1,h2⟩:=(h.ma.ps p hp).2.own k hk8
   exact ⟨v,h1,h2.grown hg (fun g' he e=>by cases e; exact hsp p hp k v hk8 h1 he)⟩,(h.ma.ps p hp).2.apart⟩⟩,h.ma.c64⟩,
  h.tt.grown hg (hne (by simp [klM]) _ _),h.rd.keep h.ra h.bs hg hgB,h.ra,h.n1,h.n2,h.n3⟩
theorem MkO.newE {w:World} {B b:Nat} {S:MW} (h:MkO w B b S) {x:Nat} (hx:w.heap.size ≤ x):∀ p ∈ S.H.sp,∀ k v,k < 8 → (tsC p.ts)[k]? = some v → v.ownBlock ≠ some x:=fun p hp k v hk hv he=>by
 obtain ⟨v',h1,h2⟩:=(h.ma.ps p hp).2.own k hk
 rw [hv] at h1
 cases h1
 have:=own_lt' h2 x he
 omega
theorem rfork_any (S:MW) (B b:Nat) (w:World) (h:MkO w B b S) (hd:Bd S.H.ma S.T) (hf:FiM S) (hl:S.H.sp.length = 1) :
  Calls Try.prog 32 #[.pointer (some ⟨b,0,none⟩)] w (ForkR S B b w):=by
 obtain ⟨p0,hsp⟩:=List.length_eq_one_iff.1 hl
 have hd':=Lib.hid hd
 have hf':=Lib.hid hf
 have hBs:=Lib.hid h.bs
 have hsp':=Lib.hid hsp
 obtain ⟨gp,op,cap,cur,hv,hgB,hgk,hgs,hgc,hgw⟩:=h.ma.sp.put psL_len (by decide) 0 (by rw [hl]; decide)
 have hap:S.H.ap = some ⟨gp,op,none⟩:=(Value.slice.inj hv).1
 have hcell:∀ W,MkO W B b S → W.cell? ⟨gp,op + 1,none⟩ = some (.slice p0.aa p0.ar.length p0.ac):=fun W hW=>by
  obtain ⟨g2,o2,_,_,hv2,_,_,_,hc2,_⟩:=hW.ma.sp.put psL_len (by decide) 0 (by rw [hl]; decide)
  have e9:(some (⟨g2,o2,none⟩:Addr)) = some ⟨gp,op,none⟩:=(Value.slice.inj hv2).1.symm.trans hap
  cases e9
  have e0:S.H.sp[0]'(by rw [hl]; decide) = p0:=by simp [hsp]
  rw [e0] at hc2
  have:=hc2 1 _ rfl
  simpa using this
 clear hd hf hsp hv hgk hgs hgc hgw
 go_enter Try.func32,Try.ntmps32
 go_upto_region 0 with (fail)
 refine wp_growQ 20 [isV (.pointer (some ⟨b,0,none⟩)),isV (.pointer (some ⟨b,0,none⟩)),isV (.pointer (some ⟨b,0,none⟩)),isV (.pointer (some ⟨b,1,none⟩)),isV (.pointer (some ⟨b,11,none⟩)),isV (.slice (some ⟨gp,op,none⟩) 1 S.H.cp),isV (.pointer (some ⟨b,0,none⟩)),isV (.pointer (some ⟨b,0,none⟩)),isV (.pointer (some ⟨b,1,none⟩)),isV (.pointer (some ⟨b,11,none⟩)),isV (.slice (some ⟨gp,op,none⟩) 1 S.H.cp),isV (.pointer (some ⟨gp,op,none⟩)),isV (.pointer (some ⟨gp,op + 1,none⟩)),isV (.slice p0.aa p0.ar.length p0.ac),isV (.agg (psC ⟨true,p0.aa,p0.ac,p0.ar,nTs,zTb⟩)),(fixR fun _=>True),(fixR fun _=>True),isV (.pointer (some ⟨b,0,none⟩)),isV (.pointer (some ⟨b,1,none⟩)),isV (.pointer (some ⟨b,11,none⟩))] (jApp S B b w ⟨true,p0.aa,p0.ac,p0.ar,nTs,zTb⟩) jApp_st (fun _=>⟨fun k _ _ e=>(by cases e),fun e=>(by cases e),fun _=>⟨h,MS.refl _ _ _⟩,fun e=>(by cases e),fun e=>(by cases e)⟩) (fix_cons (fun _ _ _ h=>h) (fix_cons (fun _ _ _ h=>h) (fix_cons (fun _ _ _ h=>h) (fix_cons (fun _ _ _ h=>h) (fix_cons (fun _ _ _ h=>h) (fix_cons (fun _ _ _ h=>h) (fix_cons (fun _ _ _ h=>h) (fix_cons (fun _ _ _ h=>h) (fix_cons (fun _ _ _ h=>h) (fix_cons (fun _ _ _ h=>h) (fix_cons (fun _ _ _ h=>h) (fix_cons (fun _ _ _ h=>h) (fix_cons (fun _ _ _ h=>h) (fix_cons (fun _ _ _ h=>h) (fix_cons (fun _ _ _ h=>h) (fix_cons (fun _ _ _ h=>h) (fix_cons (fun _ _ _ h=>h) (fix_cons (fun _ _ _ h=>h) (fix_cons (fun _ _ _ h=>h) (fix_cons (fun _ _ _ h=>h) (fix_nil))))))))))))))))))))) (by kernel_rfl) (by kernel_rfl) (by kernel_rfl) (by decide) _ rfl (by kernel_rfl) (all_cons ?_ (all_cons ?_ (all_cons ?_ (all_cons ?_ (all_cons ?_ (all_cons ?_ (all_cons ?_ (all_cons ?_ (all_cons ?_ (all_cons ?_ (all_cons ?_ (all_cons ?_ (all_cons ?_ (all_cons ?_ (all_cons ?_ (all_cons ?_ (all_cons ?_ (all_cons ?_ (all_cons ?_ (all_cons ?_ (all_nil))))))))))))))))))))) ?_
 ·intro ρ y W L hw hn hLi hLd hb hd
  refine askQ jApp_st (fun _ _ h=>jApp_up (by decide) (by intro k h1 h2 e; first | omega | (obtain rfl:=Nat.succ.inj e; exact hLd _ rfl)) h) hb ?_
  have E0:ρ (.tmp 0) = .pointer (some ⟨b,0,none⟩):=(hn (.tmp 0) rfl).trans rfl
  refine asked_val (.pointer (some ⟨b,0,none⟩)) (want_free rfl) (run_move (.inl rfl) E0) rfl
 ·intro ρ y W L hw hn hLi hLd hb hd
  refine askQ jApp_st (fun _ _ h=>jApp_up (by decide) (by intro k h1 h2 e; first | omega | (obtain rfl:=Nat.succ.inj e; exact hLd _ rfl)) h) hb ?_
  have E0:ρ (.tmp 0) = .pointer (some ⟨b,0,none⟩):=(hn (.tmp 0) rfl).trans rfl
  refine asked_val (.pointer (some ⟨b,0,none⟩)) (want_free rfl) (run_move (.inl rfl) E0) rfl
 ·intro ρ y W L hw hn hLi hLd hb hd
  refine askQ jApp_st (fun _ _ h=>jApp_up (by decide) (by intro k h1 h2 e; first | omega | (obtain rfl:=Nat.succ.inj e; exact hLd _ rfl)) h) hb ?_
  have E6:=hw 6 1 rfl
  have h1:y 1 = _:=hd 1 rfl
  refine asked_val (.pointer (some ⟨b,0,none⟩)) (want_free rfl) (by simp [execOp,go_sem,E6,h1]) rfl
 ·intro ρ y W L hw hn hLi hLd hb hd
  refine askQ jApp_st (fun _ _ h=>jApp_up (by decide) (by intro k h1 h2 e; first | omega | (obtain rfl:=Nat.succ.inj e; exact hLd _ rfl)) h) hb ?_
  have E7:=hw 7 2 rfl
  have h2:y 2 = _:=hd 2 rfl
  refine asked_val (.pointer (some ⟨b,1,none⟩)) (want_free rfl) (by simp [execOp,go_sem,E7,h2]) rfl
 ·intro ρ y W L hw hn hLi hLd hb hd
  refine askQ jApp_st (fun _ _ h=>jApp_up (by decide) (by intro k h1 h2 e; first | omega | (obtain rfl:=Nat.succ.inj e; exact hLd _ rfl)) h) hb ?_
  have E8:=hw 8 3 rfl
  have h3:y 3 = _:=hd 3 rfl
  refine asked_val (.pointer (some ⟨b,11,none⟩)) (want_free rfl) (by simp [execOp,go_sem,E8,h3]) rfl
 ·intro ρ y W L hw hn hLi hLd hb hd
  refine askQ jApp_st (fun _ _ h=>jApp_up (by decide) (by intro k h1 h2 e; first | omega | (obtain rfl:=Nat.succ.inj e; exact hLd _ rfl)) h) hb ?_
  have E9:=hw 9 4 rfl
  have h4:y 4 = _:=hd 4 rfl
  have hm:=(jApp_at hb hLi (by decide)).1
  refine asked_val (.slice (some ⟨gp,op,none⟩) 1 S.H.cp) (want_free rfl) (by simp [execOp,go_sem,E9,h4,hm.blk.cell,mkC,hap,hl]) rfl
 ·intro ρ y W L hw hn hLi hLd hb hd
  refine askQ jApp_st (fun _ _ h=>jApp_up (by decide) (by intro k h1 h2 e; first | omega | (obtain rfl:=Nat.succ.inj e; exact hLd _ rfl)) h) hb ?_
  have E0:ρ (.tmp 0) = .pointer (some ⟨b,0,none⟩):=(hn (.tmp 0) rfl).trans rfl
  refine asked_val (.pointer (some ⟨b,0,none⟩)) (want_free rfl) (run_move (.inl rfl) E0) rfl
 ·intro ρ y W L hw hn hLi hLd hb hd
  refine askQ jApp_st (fun _ _ h=>jApp_up (by decide) (by intro k h1 h2 e; first | omega | (obtain rfl:=Nat.succ.inj e; exact hLd _ rfl)) h) hb ?_
  have E11:=hw 11 6 rfl
  have h6:y 6 = _:=hd 6 rfl
  refine asked_val (.pointer (some ⟨b,0,none⟩)) (want_free rfl) (by simp [execOp,go_sem,E11,h6]) rfl
 ·intro ρ y W L hw hn hLi hLd hb hd
  refine askQ jApp_st (fun _ _ h=>jApp_up (by decide) (by intro k h1 h2 e; first | omega | (obtain rfl:=Nat.succ.inj e; exact hLd _ rfl)) h) hb ?_
  have E12:=hw 12 7 rfl
  have h7:y 7 = _:=hd 7 rfl
  refine asked_val (.pointer (some ⟨b,1,none⟩)) (want_free rfl) (by simp [execOp,go_sem,E12,h7]) rfl
 ·intro ρ y W L hw hn hLi hLd hb hd
  refine askQ jApp_st (fun _ _ h=>jApp_up (by decide) (by intro k h1 h2 e; first | omega | (obtain rfl:=Nat.succ.inj e; exact hLd _ rfl)) h) hb ?_
  have E13:=hw 13 8 rfl
  have h8:y 8 = _:=hd 8 rfl
  refine asked_val (.pointer (some ⟨b,11,none⟩)) (want_free rfl) (by simp [execOp,go_sem,E13,h8]) rfl
 ·intro ρ y W L hw hn hLi hLd hb hd
  refine askQ jApp_st (fun _ _ h=>jApp_up (by decide) (by intro k h1 h2 e; first | omega | (obtain rfl:=Nat.succ.inj e; exact hLd _ rfl)) h) hb ?_
  have E14:=hw 14 9 rfl
  have h9:y 9 = _:=hd 9 rfl
  have hm:=(jApp_at hb hLi (by decide)).1
  refine asked_val (.slice (some ⟨gp,op,none⟩) 1 S.H.cp) (want_free rfl) (by simp [execOp,go_sem,E14,h9,hm.blk.cell,mkC,hap,hl]) rfl
 ·intro ρ y W L hw hn hLi hLd hb hd
  refine askQ jApp_st (fun _ _ h=>jApp_up (by decide) (by intro k h1 h2 e; first | omega | (obtain rfl:=Nat.succ.inj e; exact hLd _ rfl)) h) hb ?_
  have E15:=hw 15 10 rfl
  have h10:y 10 = _:=hd 10 rfl
  refine asked_val (.pointer (some ⟨gp,op,none⟩)) (want_free rfl) (run_idx (i:=0) rfl (E15.trans h10) (hn (.const _) trivial) (by decide) Try.underlying38 space_size) rfl
 ·intro ρ y W L hw hn hLi hLd hb hd
  refine askQ jApp_st (fun _ _ h=>jApp_up (by decide) (by intro k h1 h2 e; first | omega | (obtain rfl:=Nat.succ.inj e; exact hLd _ rfl)) h) hb ?_
  have E16:=hw 16 11 rfl
  have h11:y 11 = _:=hd 11 rfl
  refine asked_val (.pointer (some ⟨gp,op + 1,none⟩)) (want_free rfl) (by simp [execOp,go_sem,E16,h11]) rfl
 ·intro ρ y W L hw hn hLi hLd hb hd
  refine askQ jApp_st (fun _ _ h=>jApp_up (by decide) (by intro k h1 h2 e; first | omega | (obtain rfl:=Nat.succ.inj e; exact hLd _ rfl)) h) hb ?_
  have E17:=hw 17 12 rfl
  have h12:y 12 = _:=hd 12 rfl
  have hm:=(jApp_at hb hLi (by decide)).1
  refine asked_val (.slice p0.aa p0.ar.length p0.ac) (want_free rfl) (by simp [execOp,go_sem,E17,h12,hcell W hm]) rfl
 ·intro ρ y W L hw hn hLi hLd hb hd
  refine askQ jApp_st (fun _ _ h=>jApp_up (by decide) (by intro k h1 h2 e; first | omega | (obtain rfl:=Nat.succ.inj e; exact hLd _ rfl)) h) hb ?_
  have E18:=hw 18 13 rfl
  have h13:y 13 = _:=hd 13 rfl
  have EC:∀ v,ρ (.const v) = v:=fun v=>hn (.const v) trivial
  refine asked_val (.agg (psC ⟨true,p0.aa,p0.ac,p0.ar,nTs,zTb⟩)) (want_free rfl) (by simp [execOp,go_sem,E18,h13,EC,psC,nTs]) rfl
 ·intro ρ y W L hw hn hLi hLd hb hd; have E19:=hw 19 14 rfl; have h14:y 14 = _:=hd 14 rfl
  refine asked_runQ (.slice (some ⟨W.heap.size,0,none⟩) 1 1) (want_free rfl) ?_ (jApp_15 (W':=W.alloc (.cells (psC ⟨true,p0.aa,p0.ac,p0.ar,nTs,zTb⟩) 65)) ((Below.refl _ _).alloc (Nat.le_refl _) _) (hLd 14 rfl) hb ⟨Nat.le_refl _,by unfold maxLen; omega,fun e=>(by cases e),RdV.new _ _ _⟩) trivial
  simp [execOp,go_sem,E19.trans h14,psC]
 ·intro ρ y W L hw hn hLi hLd hb hd; have E10:=hw 10 5 rfl; have h5:y 5 = _:=hd 5 rfl; have E20:=hw 20 15 rfl; have h15:=hd 15 rfl
  have hm:=(jApp_at hb hLi (by decide)).1
  obtain ⟨a,e,hx1,hx2⟩:=hb.2.2.2.1 (hLd 15 rfl) hLi
  have hpv:Own W B 65 10 (.slice S.H.ap S.H.sp.length S.H.cp) S.H.sp.length (S.H.sp.flatMap psL):=hm.ma.sp
  refine asked_appQ (want_free rfl) (run_app _ _ _ rfl B 65 _ 10 224 Try.underlying38 space_info rfl (by decide) (.slice S.H.ap S.H.sp.length S.H.cp) S.H.sp.length _ (by rw [hl,hap]; exact E10.trans h5) hpv a 1 e _ (E20.trans hx1) hx2.nl hx2.le rfl hx2.rd (one_toList (by simp [psC,nTs,Value.oneCell'])) (by unfold maxLen; omega) (by omega) hm.bs) (fun v W1 h=>jApp_16 (hLd 15 rfl) (hLd 5 rfl) hLi hb h.2.1 h.1 h.2.2) (fun _ _ _=>trivial)
 ·intro ρ y W L hw hn hLi hLd hb hd
  refine askQ jApp_st (fun _ _ h=>jApp_up (by decide) (by intro k h1 h2 e; first | omega | (obtain rfl:=Nat.succ.inj e; exact hLd _ rfl)) h) hb ?_
  have E5:=hw 5 0 rfl
  have h0:y 0 = _:=hd 0 rfl
  refine asked_val (.pointer (some ⟨b,0,none⟩)) (want_free rfl) (by simp [execOp,go_sem,E5,h0]) rfl
 ·intro ρ y W L hw hn hLi hLd hb hd
  refine askQ jApp_st (fun _ _ h=>jApp_up (by decide) (by intro k h1 h2 e; first | omega | (obtain rfl:=Nat.succ.inj e; exact hLd _ rfl)) h) hb ?_
  have E22:=hw 22 17 rfl
  have h17:y 17 = _:=hd 17 rfl
  refine asked_val (.pointer (some ⟨b,1,none⟩)) (want_free rfl) (by simp [execOp,go_sem,E22,h17]) rfl
 ·intro ρ y W L hw hn hLi hLd hb hd
  refine askQ jApp_st (fun _ _ h=>jApp_up (by decide) (by intro k h1 h2 e; first | omega | (obtain rfl:=Nat.succ.inj e; exact hLd _ rfl)) h) hb ?_
  have E23:=hw 23 18 rfl
  have h18:y 18 = _:=hd 18 rfl
  refine asked_val (.pointer (some ⟨b,11,none⟩)) (want_free rfl) (by simp [execOp,go_sem,E23,h18]) rfl
 intro y W1 hbW1 hRW1
 have hy19:y 19 = _:=hRW1 19 (by decide)
 have hy15:((fixR fun _=>True)).r (y 15) W1:=hRW1 15 (by decide)
 have hy16:((fixR fun _=>True)).r (y 16) W1:=hRW1 16 (by decide)
 clear hRW1
 simp only [lay,Nat.reduceAdd,Nat.reduceLT,decide_true,decide_false,if_true,Bool.false_eq_true,if_false,List.setIfInBounds_toArray,List.set_cons_zero,List.set_cons_succ,List.drop_succ_cons,List.drop_zero,List.drop_nil,hy19]
 clear hy19
 obtain ⟨w1,hm1,hs1,hg2,own2,hsn2⟩:=hbW1.2.2.2.2 rfl
 clear hbW1 h
 have hownP1:Own w1 B 65 10 (.slice S.H.ap S.H.sp.length S.H.cp) S.H.sp.length (S.H.sp.flatMap psL):=hm1.ma.sp
 have hp0m:p0 ∈ S.H.sp:=by rw [hsp'.out]; exact List.mem_singleton.2 rfl
 have hbk2:=grow_blk hownP1 hg2 hm1.blk (by decide)
 have hps2:∀ p ∈ S.H.sp ++ [(⟨true,p0.aa,p0.ac,p0.ar,nTs,zTb⟩:PS)],Own W1 B 69 7 (.slice p.aa p.ar.length p.ac) p.ar.length (p.ar.flatMap arL) ∧ TbO W1 B (tsC p.ts) p.tb:=fun p hp=>by
  rcases List.mem_append.1 hp with hp | hp
  ·exact ⟨grow_own hownP1 hg2 (hm1.ma.ps p hp).1 (by decide),grow_tb hownP1 hg2 (hm1.ma.ps p hp).2⟩
  ·rw [List.mem_singleton.1 hp]
   exact ⟨grow_own hownP1 hg2 (hm1.ma.ps p0 hp0m).1 (by decide),zTb_O _ _⟩
 obtain ⟨a2,c2,hv2,_⟩:=own2.rd
 rw [hv2] at own2 hsn2 ⊢
 clear hv2
 have hlen2:(S.H.sp ++ [(⟨true,p0.aa,p0.ac,p0.ar,nTs,zTb⟩:PS)]).length = S.H.sp.length + 1:=by simp
 have own2' : Own W1 B 65 10 (.slice a2 (S.H.sp ++ [(⟨true,p0.aa,p0.ac,p0.ar,nTs,zTb⟩:PS)]).length c2) (S.H.sp ++ [(⟨true,p0.aa,p0.ac,p0.ar,nTs,zTb⟩:PS)]).length ((S.H.sp ++ [(⟨true,p0.aa,p0.ac,p0.ar,nTs,zTb⟩:PS)]).flatMap psL):=by
  rw [hlen2,List.flatMap_append]
  simpa using own2
 clear own2
 go_wp2_with (refine wpList_stv rfl _ _ _ rfl b 11 _ [.slice a2 (S.H.sp.length + 1) c2] rfl rfl rfl _ _ hbk2 (by show 11 + 1 ≤ 13; omega) (by kernel_rfl) (fun u hu=>by cases List.mem_singleton.1 hu; rfl) ?_)
 intro w3 hb3 hg3
 have h3:MkO w3 B b { S with H:={ S.H with ap:=a2,cp:=c2,sp:=S.H.sp ++ [(⟨true,p0.aa,p0.ac,p0.ar,nTs,zTb⟩:PS)] } }:=hm1.appP hg2 own2' hps2 (by rw [hlen2,hl]; exact hb3) hg3
 have s3:MS w b S w3 { S with H:={ S.H with ap:=a2,cp:=c2,sp:=S.H.sp ++ [(⟨true,p0.aa,p0.ac,p0.ar,nTs,zTb⟩:PS)] } }:=hs1.app hm1 hownP1 (by simp [klM]) hg2 hg3 hsn2 (fun x hx=>by
  rcases hx with hx | hx
  ·exact .inl (.inl hx)
  ·simp only [klM,List.mem_cons,List.not_mem_nil,or_false] at hx
   rcases hx with hx | hx | hx | hx | hx | hx | hx | hx | hx <;> first | exact .inr hx.symm | exact .inl (.inr (by simp [klM,hx])))
 clear hm1 hs1 hownP1 hbk2 hps2 own2' hb3 hg3 hsn2 hg2 hcell hap
 -- process 0's areas
 obtain ⟨g3,o3,_,_,hv3,_,_,_,hc3,_⟩:=h3.ma.sp.put psL_len (by decide) 0 (by simp)
 have ha3:a2 = some ⟨g3,o3,none⟩:=(Value.slice.inj hv3).1
 have c31:w3.cell? ⟨g3,o3 + 1,none⟩ = some (.slice p0.aa p0.ar.length p0.ac):=by
  have e0:(S.H.sp ++ [(⟨true,p0.aa,p0.ac,p0.ar,nTs,zTb⟩:PS)])[0]'(by simp) = p0:=by simp [hsp'.out]
  rw [e0] at hc3
  have:=hc3 1 _ rfl
  simpa using this
 have hc:=h3.blk.cell
 unfold mkC at hc
 dsimp only at hc
 rw [ha3,hlen2] at hc
 have hA0:=(h3.ma.ps p0 (List.mem_append_left _ hp0m)).1
 have hwA:Hid ((wrongA p0.ar).1 = 0):=Lib.hid (hd'.out.rt.pt.ar ⟨p0.lv,p0.ar,tabOf (lstT S.T 0)⟩ (by
  show _ ∈ (List.range (S.H.sp.map PS.sp).length).map fun p=>({ spN S.H.ma p with tb:=tabOf (lstT S.T p) }:Sp)
  rw [List.mem_map]
  refine ⟨0,by rw [List.length_map,hl]; decide,?_⟩
  have e1:spN S.H.ma 0 = p0.sp:=by show (S.H.sp.map PS.sp).getD 0 zSp = _; rw [hsp'.out]; rfl
  rw [e1]; rfl))
 have hAl:p0.ar.length ≤ 16:=(wrongA_iff.1 hwA.out).1
 have hsr:=Lib.hid (okF_srt0 (wrongA_iff.1 hwA.out).2)
 go_wp2_with fail
 refine (ones_any p0.ar p0.aa p0.ac _ (sl_own hA0).rd (by omega) (fun x hx=>(srtF_ok hsr.out x hx).1)).mono ?_
 rintro r w4 ⟨rfl,hb4⟩
 have h4:=h3.below hb4
 have s4:=s3.below hb4
 have hs384:=Lib.hid (fC_size (onesF p0.ar))
 clear h3 s3 hc c31 ha3 hb4 hA0
 go_wp2_with (refine wpList_stn rfl _ _ _ rfl (fC (onesF p0.ar)) rfl rfl (by rw [hs384.out]; rfl) (by rw [hs384.out]; exact ones_size) (vsC_one _) ?_)
 intro w5 hb5 fx5
 have h5:=h4.below hb5
 have s5:=s4.below hb5
 have hnf:=Lib.hid (h4.new (Nat.le_refl _))
 have hfw:=Lib.hid s4.size
 clear h4 s4 hb5
 generalize w4.heap.size = gf at *
 have hT1:S.T.length = 1:=by
  have h9:=hd'.out.ok.len
  have h8:S.H.ma.sp.length = S.H.sp.length:=List.length_map _
  omega
 have hT1':=Lib.hid hT1
 have hl':=Lib.hid hl
 clear hT1 hl
 have hc:=h5.blk.cell
 unfold mkC at hc
 dsimp only at hc
 have hownT:Own w5 B 95 192 (.slice S.ab S.T.length S.cb) S.T.length (S.T.flatMap tL):=h5.tt
 go_wp2_with (at_builtin; go_must (refine wpList_appE rfl _ _ rfl (by kernel_rfl) B (.slice S.ab S.T.length S.cb) S.T.length (S.T.flatMap tL) rfl hownT rfl (by have:=hT1'.out; omega) h5.bs ?_))
 intro v6 w6 own6 hg6 hsn6
 have hal5:=(Below.refl w5.heap.size w5).alloc (Nat.le_refl _) (.cells (tL (List.replicate 64 zEn)).toArray 95)
 have h5a:=h5.below hal5
 have s5a:=s5.below hal5
 have hownTa:=hownT.below hal5
 have hfa:=fx5.ext hal5
 have hkeep:∀ {x:Nat} {cs:Array Value} {T:TypeId},Blk (w5.alloc (.cells (tL (List.replicate 64 zEn)).toArray 95)) x cs T → T ≠ 95 → Blk w6 x cs T:=fun hk0 hT=>by
  rcases grow_T hownTa hg6 with hb0 | ⟨g,cs,hk,_,hg'⟩
  ·exact hk0.ext hb0
  ·exact blk_keep hk0 hk (fun e=>hT e.symm) hg'
 have hbk6:=hkeep h5a.blk (by decide)
 have fx6:=hkeep hfa (by decide)
 have hTf:∀ x,v6.ownBlock = some x → x ≠ gf:=fun x hx e=>by
  rcases hsn6 with e1 | e1
  ·rw [e1] at hx
   obtain ⟨cs,hk⟩:=own_blk hownTa x hx
   rw [e] at hk
   exact blk_ne hk hfa (by decide) rfl
  ·have h9:=e1 x hx
   rw [e] at h9
   exact Nat.lt_irrefl _ (Nat.lt_of_lt_of_le hfa.lt h9)
 obtain ⟨a4,c4,rfl,_⟩:=own6.rd
 have hkfT:some gf = oB a4 → False:=fun e=>hTf gf (by rw [oB_eq]; exact e.symm) rfl
 have hlen4:(S.T ++ [List.replicate 64 zEn]).length = S.T.length + 1:=by simp
 have own6' : Own w6 B 95 192 (.slice a4 (S.T ++ [List.replicate 64 zEn]).length c4) (S.T ++ [List.replicate 64 zEn]).length ((S.T ++ [List.replicate 64 zEn]).flatMap tL):=by
  rw [hlen4,List.flatMap_append]
  simpa using own6
 clear hc h5 s5 hownT own6 hal5 hkeep hfa fx5
 go_wp2_with (refine wpList_stv rfl _ _ _ rfl b 12 _ [.slice a4 (S.T.length + 1) c4] rfl rfl rfl _ _ hbk6 (by show 12 + 1 ≤ 13; omega) (by kernel_rfl) (fun u hu=>by cases List.mem_singleton.1 hu; rfl) ?_)
 intro w7 hb7 hg7
 have h7:MkO w7 B b { S with H:={ S.H with ap:=some ⟨g3,o3,none⟩,cp:=c2,sp:=S.H.sp ++ [(⟨true,p0.aa,p0.ac,p0.ar,nTs,zTb⟩:PS)] },ab:=a4,cb:=c4,T:=S.T ++ [List.replicate 64 zEn] }:=h5a.appT hg6 own6' (by rw [hlen4]; exact hb7) hg7
 have s7:MS w b S w7 { S with H:={ S.H with ap:=some ⟨g3,o3,none⟩,cp:=c2,sp:=S.H.sp ++ [(⟨true,p0.aa,p0.ac,p0.ar,nTs,zTb⟩:PS)] },ab:=a4,cb:=c4,T:=S.T ++ [List.replicate 64 zEn] }:=s5a.app h5a hownTa (by simp [klM]) hg6 hg7 hsn6 (fun x hx=>by
  rcases hx with hx | hx
  ·exact .inl (.inl hx)
  ·simp only [klM,List.mem_cons,List.not_mem_nil,or_false] at hx
   rcases hx with hx | hx | hx | hx | hx | hx | hx | hx | hx <;> first | exact .inr hx.symm | exact .inl (.inr (by simp [klM,hx])))
 have hnb:gf ≠ b:=fun e=>hnf.out (.inl e)
 have hkf7:Hid (¬ kbM b ({ S with H:={ S.H with ap:=some ⟨g3,o3,none⟩,cp:=c2,sp:=S.H.sp ++ [(⟨true,p0.aa,p0.ac,p0.ar,nTs,zTb⟩:PS)] },ab:=a4,cb:=c4,T:=S.T ++ [List.replicate 64 zEn] }:MW) gf):=Lib.hid fun hk=>by
  rcases hk with hk | hk
  ·exact hnf.out (.inl hk)
  ·simp only [klM,List.mem_cons,List.not_mem_nil,or_false] at hk
   have hlt:gf < w6.heap.size:=fx6.lt
   rcases hk with hk | hk | hk | hk | hk | hk | hk | hk | hk
   all_goals first
    | exact hkfT hk
    | exact hnf.out (.inr (by simp [klM,hk]))
 have fx7:=fx6.grown hg7 (fun e=>hnb (Option.some.inj e).symm)
 clear h5a s5a hownTa hbk6 own6' hb7 hg7 hsn6 hg6 fx6
 have hma5:({ S with H:={ S.H with ap:=some ⟨g3,o3,none⟩,cp:=c2,sp:=S.H.sp ++ [(⟨true,p0.aa,p0.ac,p0.ar,nTs,zTb⟩:PS)] },ab:=a4,cb:=c4,T:=S.T ++ [List.replicate 64 zEn] }:MW).H.ma = { S.H.ma with sp:=S.H.ma.sp ++ [⟨true,p0.ar,zTb⟩] }:=by simp [MH.ma,PS.sp]
 have hmore:Hid (More S { S with H:={ S.H with ap:=some ⟨g3,o3,none⟩,cp:=c2,sp:=S.H.sp ++ [(⟨true,p0.aa,p0.ac,p0.ar,nTs,zTb⟩:PS)] },ab:=a4,cb:=c4,T:=S.T ++ [List.replicate 64 zEn] }):=Lib.hid ⟨by
  rw [hma5]
  exact hd'.out.more (s:=⟨true,p0.ar,zTb⟩) (by show (S.H.sp.map PS.sp).length < 4; rw [List.length_map,hl'.out]; decide) rfl hwA.out,fun p hp n g hg=>by
  rcases List.mem_append.1 hp with hp | hp
  ·exact hf'.out p hp n g hg
  ·rw [List.mem_singleton.1 hp] at hg
   exact hf'.out p0 hp0m n g hg,rfl,rfl,rfl,by simp,rfl⟩
 have hspL:Hid (({ S with H:={ S.H with ap:=some ⟨g3,o3,none⟩,cp:=c2,sp:=S.H.sp ++ [(⟨true,p0.aa,p0.ac,p0.ar,nTs,zTb⟩:PS)] },ab:=a4,cb:=c4,T:=S.T ++ [List.replicate 64 zEn] }:MW).H.ma.sp.length = 2):=Lib.hid (by
  rw [hma5,List.length_append]
  show (S.H.sp.map PS.sp).length + 1 = 2
  rw [List.length_map,hl'.out])
 have hsp0:Hid ((spN ({ S with H:={ S.H with ap:=some ⟨g3,o3,none⟩,cp:=c2,sp:=S.H.sp ++ [(⟨true,p0.aa,p0.ac,p0.ar,nTs,zTb⟩:PS)] },ab:=a4,cb:=c4,T:=S.T ++ [List.replicate 64 zEn] }:MW).H.ma 0).ar = p0.ar ∧ (spN ({ S with H:={ S.H with ap:=some ⟨g3,o3,none⟩,cp:=c2,sp:=S.H.sp ++ [(⟨true,p0.aa,p0.ac,p0.ar,nTs,zTb⟩:PS)] },ab:=a4,cb:=c4,T:=S.T ++ [List.replicate 64 zEn] }:MW).H.ma 1).ar = p0.ar):=Lib.hid (by
  rw [hma5]
  have e:S.H.ma.sp = [p0.sp]:=by show S.H.sp.map PS.sp = _; rw [hsp'.out]; rfl
  unfold spN
  simp only [e]
  exact ⟨rfl,rfl⟩)
 obtain ⟨t0,ht0⟩:=List.length_eq_one_iff.1 hT1'.out
 have hent:Hid ((∀ j:Nat,entT ({ S with H:={ S.H with ap:=some ⟨g3,o3,none⟩,cp:=c2,sp:=S.H.sp ++ [(⟨true,p0.aa,p0.ac,p0.ar,nTs,zTb⟩:PS)] },ab:=a4,cb:=c4,T:=S.T ++ [List.replicate 64 zEn] }:MW).T 0 j = t0.getD j zEn) ∧ ∀ j:Nat,(entT ({ S with H:={ S.H with ap:=some ⟨g3,o3,none⟩,cp:=c2,sp:=S.H.sp ++ [(⟨true,p0.aa,p0.ac,p0.ar,nTs,zTb⟩:PS)] },ab:=a4,cb:=c4,T:=S.T ++ [List.replicate 64 zEn] }:MW).T 1 j).k = 0):=Lib.hid (by
  unfold entT lstT
  simp only [ht0]
  refine ⟨fun j=>rfl,fun j => ?_⟩
  show ((List.replicate 64 zEn).getD j zEn).k = 0
  rw [List.getD_eq_getElem?_getD,List.getElem?_replicate]
  split <;> rfl)
 obtain ⟨gT,oT,_,_,hvT,_,_,_,hcT,_⟩:=h7.tt.put tL_len (by decide) 0 (by simp)
 have haT:a4 = some ⟨gT,oT,none⟩:=(Value.slice.inj hvT).1
 have hrdT:RdV w7 (some ⟨gT,oT,none⟩) (tL t0):=fun j u hj=>⟨gT,oT,rfl,by
  have e0:(S.T ++ [List.replicate 64 zEn])[0]'(by simp) = t0:=by simp [ht0]
  rw [e0] at hcT
  simpa using hcT j u hj⟩
 have hTlen:(S.T ++ [List.replicate 64 zEn]).length = 2:=by rw [hlen4,hT1'.out]
 have hc:=h7.blk.cell
 unfold mkC at hc
 dsimp only at hc
 rw [haT,hTlen] at hc
 have ht0':=Lib.hid ht0
 clear hma5 ht0 hvT hcT
 have hsz3:(Try.prog.info? 95).map (·.size) = some (tL t0).length:=by rw [tL_len]; exact ents_size
 have hsz3':=Lib.hid hsz3
 clear hsz3
 go_upto_region 3 with (fail)
 clear hnb hlen4 hlen2 hBs hnf hfw hs384 hwA
 go_upto_region 4 with (refine wpList_ldg _ _ rfl gT oT rfl rfl (tL t0) hrdT _ Try.underlying95 rfl hsz3'.out ?_)
 have h7:MkO w7 B b { S with H:={ S.H with ap:=some ⟨g3,o3,none⟩,cp:=c2,sp:=S.H.sp ++ [(⟨true,p0.aa,p0.ac,p0.ar,nTs,zTb⟩:PS)] },ab:=a4,cb:=c4,T:=S.T ++ [List.replicate 64 zEn] }:=h7
 have hlen7:Hid (({ S with H:={ S.H with ap:=some ⟨g3,o3,none⟩,cp:=c2,sp:=S.H.sp ++ [(⟨true,p0.aa,p0.ac,p0.ar,nTs,zTb⟩:PS)] },ab:=a4,cb:=c4,T:=S.T ++ [List.replicate 64 zEn] }:MW).T.length = 2):=Lib.hid hTlen
 clear hc hrdT hsz3' hTlen
 have hSp5:Hid (({ S with H:={ S.H with ap:=some ⟨g3,o3,none⟩,cp:=c2,sp:=S.H.sp ++ [(⟨true,p0.aa,p0.ac,p0.ar,nTs,zTb⟩:PS)] },ab:=a4,cb:=c4,T:=S.T ++ [List.replicate 64 zEn] }:MW).H.sp = S.H.sp ++ [(⟨true,p0.aa,p0.ac,p0.ar,nTs,zTb⟩:PS)]):=Lib.hid rfl
 have hT5:Hid (({ S with H:={ S.H with ap:=some ⟨g3,o3,none⟩,cp:=c2,sp:=S.H.sp ++ [(⟨true,p0.aa,p0.ac,p0.ar,nTs,zTb⟩:PS)] },ab:=a4,cb:=c4,T:=S.T ++ [List.replicate 64 zEn] }:MW).T = S.T ++ [List.replicate 64 zEn]):=Lib.hid rfl
 generalize ({ S with H:={ S.H with ap:=some ⟨g3,o3,none⟩,cp:=c2,sp:=S.H.sp ++ [(⟨true,p0.aa,p0.ac,p0.ar,nTs,zTb⟩:PS)] },ab:=a4,cb:=c4,T:=S.T ++ [List.replicate 64 zEn] }:MW) = S5 at *
 go_loopw [50] (fun i wr => ∃ (n:Nat) (Sn:MW),n ≤ 64 ∧ i = .int .i64 n ∧ MkO wr B b Sn ∧ MS w b S wr Sn ∧ Blk wr gf (fC (onesF p0.ar)) 107 ∧ Hid (¬ kbM b Sn gf) ∧ Hid (Kep S5 Sn ∧ Bd Sn.H.ma Sn.T ∧ ∀ j:Nat,n ≤ j → entT Sn.T 0 j = t0.getD j zEn ∧ (entT Sn.T 1 j).k = 0)) (fun i _=>64 - (intOf i).toNat)
 case atStart=>exact ⟨0,S5,Nat.zero_le _,rfl,h7,s7,fx7,hkf7,Lib.hid ⟨.refl _,hmore.out.bd,fun j _=>by rw [hT5.out]; exact ⟨hent.out.1 j,hent.out.2 j⟩⟩⟩
 case round=>
  clear h7 s7 fx7 hkf7
  obtain ⟨n,Sn,hn,rfl,hm,hs,fx,hkf,hN⟩:=hrel
  by_cases hn64:n < 64
  ·have hni:(n:Int) < 64:=by omega
   obtain ⟨e,he⟩:∃ e,t0.getD n zEn = e:=⟨_,rfl⟩
   have hix:=idx_ent t0 n hn64 e he
   unfold enC at hix
   have he':=Lib.hid he
   clear he
   have hTSn:Sn.T.length = 2:=by
    have h9:=hN.out.2.1.ok.len
    rw [h9]
    show (Sn.H.sp.map PS.sp).length = 2
    rw [List.length_map,hN.out.1.sp,hmore.out.sp,hl'.out]
   have h64:Hid (∀ p,p < 2 → (lstT Sn.T p).length = 64):=Lib.hid fun p hp=>hN.out.2.1.ok.l64 (by rw [← hN.out.2.1.ok.len,hTSn]; exact hp)
   go_upto_region 6 with (fail)
   refine abs1 (fun W=>Code.wp _ _ _ _ W) fun W1 hb1 bx1 hs1 => ?_
   have hm1:=hm.below hb1
   have sm1:=hs.below hb1
   have fx1:=fx.ext hb1
   have hkgx:=Lib.hid (hm.new (Nat.le_refl _))
   have hfar:=Lib.hid (hm.newE (Nat.le_refl _))
   have hgxB:B ≤ wr.heap.size:=hm.bs
   have hgxw:=Lib.hid hs.size
   have hgfx:gf ≠ wr.heap.size:=fun e9=>by have:=fx.lt; omega
   have hcx:=bx1.cell
   clear hs1 hb1 hm hs fx hix
   generalize wr.heap.size = gx at *
   by_cases hk1:e.k = 1
   ·have hK:=hN.out.1
    have hB:=hN.out.2.1
    have hL:Sn.H.ma.sp.length = 2:=by rw [← hB.ok.len]; exact hTSn
    have he0:entT Sn.T 0 n = e:=by rw [(hN.out.2.2 n (Nat.le_refl _)).1]; exact he'.out
    have hE:=entT_E hB.ok (p:=0) (n:=n) (by omega) hn64
    rw [he0] at hE
    have hfe:=fullM_ent hB.ok (p:=0) (n:=n) (by omega) hn64
    rw [he0] at hfe
    obtain ⟨g,hpg,hfit⟩:=hB.rt.en 0 n (by rw [hfe,hk1]; decide)
    rw [hfe] at hfit
    have hn0:0 ≤ e.n:=by rcases (entE_iff _).1 hE with h9 | h9 | h9 <;> omega
    obtain ⟨f,hf0⟩:=Int.eq_ofNat_of_zero_le hn0
    have hfl:f < Sn.H.m.fs.length:=by
     have h9:=hfit.lt hk1
     have e1:((fullM Sn.H.ma Sn.T).m.fs.length:Nat) = Sn.H.m.fs.length:=rfl
     omega
    rw [fullM_pg (by omega)] at hpg
    have har:(spN Sn.H.ma 1).ar = (spN Sn.H.ma 0).ar ∧ (spN Sn.H.ma 0).ar = p0.ar:=by
     have e1:Sn.H.ma.sp = [p0.sp,⟨true,p0.ar,zTb⟩]:=by
      show Sn.H.sp.map PS.sp = _
      rw [hK.sp,hSp5.out,hsp'.out]; rfl
     unfold spN
     rw [e1]
     exact ⟨rfl,rfl⟩
    have hog:onesF p0.ar n = some g:=by rw [onesF_on hsr.out,← har.2]; exact hpg
    obtain ⟨ga,off,cap,cur,hv,hgB,hgk,hgs,hgc,hgw⟩:=hm1.ma.fr.put frL_len (by decide) f hfl
    have haf:Sn.H.af = some ⟨ga,off,none⟩:=(Value.slice.inj hv).1
    have hX:frN Sn.H.ma f = Sn.H.m.fs[f]:=by
     unfold frN
     show Sn.H.m.fs.getD f fr0 = _
     rw [List.getD_eq_getElem?_getD,List.getElem?_eq_getElem hfl]; rfl
    have hr0:=hB.rt.fewR (f:=f) hfl
    have hr1:0 ≤ (Sn.H.m.fs[f]).r ∧ (Sn.H.m.fs[f]).r ≤ 257:=by rw [← hX]; exact hr0
    have hX':=Lib.hid hX
    have hgw':=Lib.hid hgw
    have hgc' : Hid (∀ j u,(frL Sn.H.m.fs[f])[j]? = some u → cur[off + f * 13 + j]? = some u):=Lib.hid fun j u hj=>by rw [← hgk.cell]; exact hgc j u hj
    have hc0:∀ W,Below W1.heap.size W1 W → W.cell? ⟨ga,off + f * 13 + 8,none⟩ = some (.int .i64 (Sn.H.m.fs[f]).r):=fun W hb=>by
     rw [(hgk.ext hb).cell,← hgk.cell]
     exact hgc 8 _ rfl
    have hall:=Lib.hid (And.intro hpg (And.intro hL (And.intro har (And.intro hE (And.intro he0 hog)))))
    clear hX hgw hgc hr0 hv hpg hfit hE hfe hK hB hL hn0 har he0 hog
    generalize Sn.H.m.fs[f] = X at hc0 hr1 hX' hgc'
    have hw0:IntKind.i64.wrap (X.r + 1) = X.r + 1:=IntWalk.i64_in _ (by omega)
    go_upto_region 7 with (fail)
    refine wp_growP 14 [_,_,_,_,_,_,_,_,_,_,_,_,_,_] (Gk rfl (Gk rfl (Gf b 1 rfl rfl (Gf b 1 rfl rfl (Gf b 1 rfl rfl (Gl hm1.blk (V:=.slice (some ⟨ga,off,none⟩) Sn.H.m.fs.length Sn.H.cf) (by simp [mkC,haf]) rfl rfl rfl rfl (Gf gx 1 rfl rfl (Gl bx1 (V:=.int .i64 (f:Int)) (by simp [enC,hf0]) rfl rfl rfl rfl (Gr (.pointer (some ⟨ga,off + f * 13,none⟩)) (fun ρ y W hb hk=>(run_idx rfl (kx_at rfl hk) (kx_at rfl hk) hfl Try.underlying25 frame_size)) rfl rfl (Gf ga (off + f * 13 + 8) rfl rfl (Gc (.int .i64 X.r) (fun W hb=>by simp [hc0 _ hb]) rfl rfl rfl rfl (Gb (.int .i64 (X.r + 1)) (by simp [go_sem,hw0]) rfl rfl rfl rfl rfl (Gr (.pointer (some ⟨ga,off + f * 13,none⟩)) (fun ρ y W hb hk=>(run_idx rfl (kx_at rfl hk) (kx_at rfl hk) hfl Try.underlying25 frame_size)) rfl rfl (Gf ga (off + f * 13 + 8) rfl rfl (all_nil))))))))))))))) (fun _=>rfl) rfl ?_
    intro y W8 hbW8 _
    have hgk8:=hgk.ext hbW8
    have hm8:=hm1.below hbW8
    have sm8:=sm1.below hbW8
    have bx8:=bx1.ext hbW8
    have fx8:=fx1.ext hbW8
    clear hm1 sm1 bx1 fx1 hgk hcx hc0 hbW8
    go_wp2_with (refine wpList_stv rfl _ _ _ rfl ga (off + f * 13 + 8) _ [.int .i64 (X.r + 1)] rfl rfl rfl _ _ hgk8 (by show off + f * 13 + 8 + 1 ≤ cur.size; omega) (by kernel_rfl) (fun u hu=>by cases List.mem_singleton.1 hu; rfl) ?_)
    intro w9 hb9 hg9
    rw [upFr_put (by omega) (fun j u hj=>hgc'.out j u hj)] at hb9
    have hx0:MkO w9 B b (Sn.frs (Sn.H.m.fs.set f (upFr X))):=hm8.putF hgk8 hgB hg9 (fs:=Sn.H.m.fs.set f (upFr X)) (by simp) (by simpa using hgw'.out _ _ hb9)
    have hkaf:kbM b Sn ga:=.inr (by simp only [klM,haf]; exact List.mem_cons_self)
    have sx0:MS w b S w9 (Sn.frs (Sn.H.m.fs.set f (upFr X))):=sm8.put hg9 hkaf (fun x hx => .inl hx)
    have bx9:=blk_keep bx8 hgk8 (by decide) hg9
    have fx9:=blk_keep fx8 hgk8 (by decide) hg9
    have hg3:w9.cell? ⟨gf,n * 6 + 3,none⟩ = some (.bool g.sh):=by
     rw [fx9.cell]
     exact fC_cell (onesF p0.ar) n 3 hn64 _ (by rw [hall.out.2.2.2.2.2]; rfl) (by decide)
    have hcx:=bx9.cell
    clear hm8 sm8 bx8 fx8 hgk8 hb9 hg9 haf hkaf
    unfold enC at hcx
    cases hsh:g.sh with
    | true=>
     rw [hsh] at hg3
     have hx:=hx0
     have sx:=sx0
     have bx:=bx9
     have fx1:=fx9
     have hkx:Hid (¬ kbM b (Sn.frs (Sn.H.m.fs.set f (upFr X))) gf):=hkf
     have hkgx:Hid (¬ kbM b (Sn.frs (Sn.H.m.fs.set f (upFr X))) gx):=hkgx
     have hT2:(Sn.frs (Sn.H.m.fs.set f (upFr X))).T.length = 2:=hTSn
     have h64a:(lstT (Sn.frs (Sn.H.m.fs.set f (upFr X))).T 0).length = 64:=h64.out 0 (by decide)
     have h64b:(lstT (Sn.frs (Sn.H.m.fs.set f (upFr X))).T 1).length = 64:=h64.out 1 (by decide)
     have hF12:Hid (Kep S5 { (Sn.frs (Sn.H.m.fs.set f (upFr X))) with T:=setL (setL (Sn.frs (Sn.H.m.fs.set f (upFr X))).T 0 n e) 1 n e } ∧ Bd (Sn.frs (Sn.H.m.fs.set f (upFr X))).H.ma (setL (setL (Sn.frs (Sn.H.m.fs.set f (upFr X))).T 0 n e) 1 n e) ∧ ∀ j:Nat,n + 1 ≤ j → entT (setL (setL (Sn.frs (Sn.H.m.fs.set f (upFr X))).T 0 n e) 1 n e) 0 j = t0.getD j zEn ∧ (entT (setL (setL (Sn.frs (Sn.H.m.fs.set f (upFr X))).T 0 n e) 1 n e) 1 j).k = 0):=Lib.hid (by
      have hK:=hN.out.1
      have hB:=hN.out.2.1
      obtain ⟨hpg,hL,har,hE,he0,hog⟩:=hall.out
      have h12:=hB.share1 (w:=e.w) hL hn64 har.1 (by rw [he0]; exact hk1) (hN.out.2.2 n (Nat.le_refl _)).2 hpg (by rw [he0]; exact hf0) (by rw [he0,hsh]; rfl)
      rw [hX'.out,show (⟨1,(f:Int),e.w⟩:En) = e from by rw [← hf0,← hk1]] at h12
      have hE2:entE e = 0:=by
       rw [entE_iff] at hE ⊢
       rcases hE with h9 | h9 | h9
       ·omega
       ·first
        | exact .inr (.inl ⟨h9.1,h9.2⟩)
        | exact .inr (.inl ⟨rfl,by show (0:Int) ≤ f; omega,by show (f:Int) < 40; omega⟩)
       ·omega
      exact ⟨⟨hK.sp,hK.fi,hK.ct,hK.dk,by show (Sn.H.m.fs.set f (upFr X)).length = _; rw [List.length_set]; exact hK.fl,hK.sl⟩,h12,fun j hj=>by
       show entT (setL (setL Sn.T 0 n e) 1 n e) 0 j = _ ∧ (entT (setL (setL Sn.T 0 n e) 1 n e) 1 j).k = 0
       rw [ent_two hB.ok hL hn64 hE2 _ _ (by omega),ent_two hB.ok hL hn64 hE2 _ _ (by omega)]
       exact hN.out.2.2 j (by omega)⟩)
     generalize hSx:(Sn.frs (Sn.H.m.fs.set f (upFr X))) = Sx at hx sx hkx hkgx hT2 h64a h64b hF12
     clear hx0 sx0 bx9 fx9
     obtain ⟨gT2,oT2,_,hab2,hgT2B,hkT2,_⟩:=hx.ent (p:=0) (n:=n) (by omega) hn64 h64a
     have hgxT:gx ≠ gT2:=fun e9=>hkgx.out (.inr (by rw [e9]; simp [klM,hab2,oB]; right; right; right; right; right; right; right; right; rfl))
     have hgfT:gf ≠ gT2:=fun e9=>hkx.out (.inr (by rw [e9]; simp [klM,hab2,oB]; right; right; right; right; right; right; right; right; rfl))
     go_upto_region 12 with (fail)
     refine wp_growR 17 [isV (.pointer (some ⟨b,0,none⟩)),isV (.pointer (some ⟨b,0,none⟩)),isV (.pointer (some ⟨b,12,none⟩)),isV (.slice (some ⟨gT2,oT2,none⟩) 2 Sx.cb),isV (.int .i64 (n:Int)),isV (.pointer (some ⟨b,0,none⟩)),isV (.pointer (some ⟨b,0,none⟩)),isV (.pointer (some ⟨b,12,none⟩)),isV (.slice (some ⟨gT2,oT2,none⟩) 2 Sx.cb),isV (.int .i64 (n:Int)),isV (.agg (enC e)),isV (.agg (enC e)),isV (.pointer (some ⟨gT2,oT2,none⟩)),isV (.pointer (some ⟨gT2,oT2 + n * 3,none⟩)),(fixR fun _=>True),isV (.pointer (some ⟨gT2,oT2 + 192,none⟩)),isV (.pointer (some ⟨gT2,oT2 + 192 + n * 3,none⟩))] (jTwo S Sx { Sx with T:=setL Sx.T 0 n e } B b w gx gf e (fC (onesF p0.ar))) jTwo_st (fun _=>⟨⟨bx,fx1⟩,fun _=>⟨hx,sx⟩,fun h=>(by cases h)⟩) (fix_cons (fun _ _ _ h=>h) (fix_cons (fun _ _ _ h=>h) (fix_cons (fun _ _ _ h=>h) (fix_cons (fun _ _ _ h=>h) (fix_cons (fun _ _ _ h=>h) (fix_cons (fun _ _ _ h=>h) (fix_cons (fun _ _ _ h=>h) (fix_cons (fun _ _ _ h=>h) (fix_cons (fun _ _ _ h=>h) (fix_cons (fun _ _ _ h=>h) (fix_cons (fun _ _ _ h=>h) (fix_cons (fun _ _ _ h=>h) (fix_cons (fun _ _ _ h=>h) (fix_cons (fun _ _ _ h=>h) (fix_cons (fun _ _ _ h=>h) (fix_cons (fun _ _ _ h=>h) (fix_cons (fun _ _ _ h=>h) (fix_nil)))))))))))))))))) (by kernel_rfl) _ rfl (by kernel_rfl) (by kernel_rfl) (by decide) _ rfl (by kernel_rfl) (all_cons (gaq jTwo_st (fun _ _ _ _ h=>h) (gwf rfl) (gmv rfl (gkp rfl rfl) rfl)) (all_cons (gaq jTwo_st (fun _ _ _ _ h=>h) (gwf rfl) (gnc rfl (gkv 0 rfl rfl rfl) rfl)) (all_cons (gaq jTwo_st (fun _ _ _ _ h=>h) (gwf rfl) (gfa rfl (gkv 1 rfl rfl rfl) rfl (fun _=>by kernel_rfl))) (all_cons ?_ (all_cons (gaq jTwo_st (fun _ _ _ _ h=>h) (gwf rfl) (gmv rfl (gkp rfl rfl) rfl)) (all_cons (gaq jTwo_st (fun _ _ _ _ h=>h) (gwf rfl) (gmv rfl (gkp rfl rfl) rfl)) (all_cons (gaq jTwo_st (fun _ _ _ _ h=>h) (gwf rfl) (gnc rfl (gkv 5 rfl rfl rfl) rfl)) (all_cons (gaq jTwo_st (fun _ _ _ _ h=>h) (gwf rfl) (gfa rfl (gkv 6 rfl rfl rfl) rfl (fun _=>by kernel_rfl))) (all_cons ?_ (all_cons (gaq jTwo_st (fun _ _ _ _ h=>h) (gwf rfl) (gmv rfl (gkp rfl rfl) rfl)) (all_cons ?_ (all_cons ?_ (all_cons ?_ (all_cons ?_ (all_cons ?_ (all_cons ?_ (all_cons ?_ (all_nil)))))))))))))))))) ?_
     ·intro ρ y W L hw hn hLi hLd hb hd
      refine askQ jTwo_st (fun _ _ h=>h) hb ?_
      have E93:=hw 93 2 rfl
      have h2:y 2 = _:=hd 2 rfl
      have hcc:=jTwo_ab hb (by simp [mkC,setL])
      refine asked_val (.slice (some ⟨gT2,oT2,none⟩) 2 Sx.cb) (want_free rfl) (by simp [execOp,go_sem,stripO,E93,h2,hcc,mkC,hab2,hT2]) rfl
     ·intro ρ y W L hw hn hLi hLd hb hd
      refine askQ jTwo_st (fun _ _ h=>h) hb ?_
      have E98:=hw 98 7 rfl
      have h7:y 7 = _:=hd 7 rfl
      have hcc:=jTwo_ab hb (by simp [mkC,setL])
      refine asked_val (.slice (some ⟨gT2,oT2,none⟩) 2 Sx.cb) (want_free rfl) (by simp [execOp,go_sem,stripO,E98,h7,hcc,mkC,hab2,hT2]) rfl
     ·intro ρ y W L hw hn hLi hLd hb hd
      refine askQ jTwo_st (fun _ _ h=>h) hb ?_
      have E4:ρ (.tmp 4) = .pointer (some ⟨gx,0,none⟩):=(hn (.tmp 4) rfl).trans rfl
      refine asked_val (.agg (enC e)) (want_free rfl) (run_load_blk rfl E4 hb.1.1 Try.underlying67 rfl entry_size3) rfl
     ·intro ρ y W L hw hn hLi hLd hb hd
      refine askQ jTwo_st (fun _ _ h=>h) hb ?_
      have E4:ρ (.tmp 4) = .pointer (some ⟨gx,0,none⟩):=(hn (.tmp 4) rfl).trans rfl
      refine asked_val (.agg (enC e)) (want_free rfl) (run_load_blk rfl E4 hb.1.1 Try.underlying67 rfl entry_size3) rfl
     ·intro ρ y W L hw hn hLi hLd hb hd
      refine askQ jTwo_st (fun _ _ h=>h) hb ?_
      have E94:=hw 94 3 rfl
      have h3:y 3 = _:=hd 3 rfl
      refine asked_val (.pointer (some ⟨gT2,oT2,none⟩)) (want_free rfl) (run_idx (i:=0) rfl (E94.trans h3) (hn (.const _) trivial) (by decide) Try.underlying87 ents_size) rfl
     ·intro ρ y W L hw hn hLi hLd hb hd
      refine askQ jTwo_st (fun _ _ h=>h) hb ?_
      have E103:=hw 103 12 rfl
      have h12:y 12 = _:=hd 12 rfl
      have E95:=hw 95 4 rfl
      have h4:y 4 = _:=hd 4 rfl
      have hn9:((64:Int) ≤ (n:Int)) = False:=eq_false (by omega)
      refine asked_val (.pointer (some ⟨gT2,oT2 + n * 3,none⟩)) (want_free rfl) (by simp [execOp,go_sem,stripO,E103,h12,E95,h4,hn64,hn9]) rfl
     ·intro ρ y W L hw hn hLi hLd hb hd; have E104:=hw 104 13 rfl; have h13:y 13 = _:=hd 13 rfl; have E101:=hw 101 10 rfl; have h10:y 10 = _:=hd 10 rfl
      obtain ⟨hm9,hs9⟩:=hb.2.1 hLi
      obtain ⟨gQ,oQ,curQ,hQ,hQB,hQk,hQs,_,hQw⟩:=hm9.ent (p:=0) (n:=n) (by omega) hn64 h64a
      cases (hQ.symm.trans hab2)
      rw [Nat.zero_mul,Nat.add_zero] at hQs hQw
      exact asked_stQ (want_free rfl) (run_stv _ _ _ rfl gT2 (oT2 + n * 3) _ (enL e) (E104.trans h13) (E101.trans h10) rfl curQ _ hQk (by rw [enL_len]; exact hQs) (by kernel_rfl) (one_toList (enC_one _))) ⟨⟨hb.1.1.grown (grownBy_setCells _ _ _ _) (fun e9=>hgxT (Option.some.inj e9).symm),hb.1.2.grown (grownBy_setCells _ _ _ _) (fun e9=>hgfT (Option.some.inj e9).symm)⟩,fun h=>(by cases h),fun _=>⟨hQw _ e (hQk.setCells _ _) (grownBy_setCells _ _ _ _),hs9.put (grownBy_setCells _ _ _ _) (.inr (by simp only [klM,hab2]; simp [oB]; right; right; right; right; right; right; right; right; rfl)) (fun x hx => .inl hx)⟩⟩ trivial
     ·intro ρ y W L hw hn hLi hLd hb hd
      refine askQ jTwo_st (fun _ _ h=>h) hb ?_
      have E99:=hw 99 8 rfl
      have h8:y 8 = _:=hd 8 rfl
      refine asked_val (.pointer (some ⟨gT2,oT2 + 192,none⟩)) (want_free rfl) (run_idx (i:=1) rfl (E99.trans h8) (hn (.const _) trivial) (by decide) Try.underlying87 ents_size) rfl
     ·intro ρ y W L hw hn hLi hLd hb hd
      refine askQ jTwo_st (fun _ _ h=>h) hb ?_
      have E105:=hw 105 15 rfl
      have h15:y 15 = _:=hd 15 rfl
      have E100:=hw 100 9 rfl
      have h9:y 9 = _:=hd 9 rfl
      have hn9:((64:Int) ≤ (n:Int)) = False:=eq_false (by omega)
      refine asked_val (.pointer (some ⟨gT2,oT2 + 192 + n * 3,none⟩)) (want_free rfl) (by simp [execOp,go_sem,stripO,E105,h15,E100,h9,hn64,hn9]) rfl
     intro y W9 hbW9 hRW9
     have hy11:y 11 = _:=hRW9 11 (by decide)
     have hy16:y 16 = _:=hRW9 16 (by decide)
     have hy14:((fixR fun _=>True)).r (y 14) W9:=hRW9 14 (by decide)
     clear hRW9
     simp only [lay,strip,stripO,List.map_cons,List.map_nil,Nat.reduceAdd,Nat.reduceLT,decide_true,decide_false,if_true,Bool.false_eq_true,if_false,List.setIfInBounds_toArray,List.set_cons_zero,List.set_cons_succ,List.drop_succ_cons,List.drop_zero,List.drop_nil,hy11,hy16]
     clear hy11 hy16
     obtain ⟨⟨bx9,fx9⟩,_,hq9⟩:=hbW9
     obtain ⟨h9,s9⟩:=hq9 rfl
     have hT9:(setL Sx.T 0 n e).length = 2:=by unfold setL; rw [List.length_set]; exact hT2
     obtain ⟨gR,oR',curR,hR,hRB,hRk,hRs,_,hRw⟩:=h9.ent (p:=1) (n:=n) (by show 1 < (setL Sx.T 0 n e).length; omega) hn64 (by
      show (lstT (setL Sx.T 0 n e) 1).length = 64
      rw [lstT_set (by omega),if_neg (by decide)]
      exact h64b)
     have hR:Sx.ab = some ⟨gR,oR',none⟩:=hR
     cases (hR.symm.trans hab2)
     rw [Nat.one_mul] at hRs hRw
     have hRw':=Lib.hid hRw
     clear hRw hq9 hx sx bx fx1
     go_wp2_with (refine wpList_stv rfl _ _ _ rfl gT2 (oT2 + 192 + n * 3) _ (enL e) rfl rfl rfl _ _ hRk (by rw [enL_len]; exact hRs) (by kernel_rfl) (one_toList (enC_one _)) ?_)
     intro w10 hb10 hg10
     have h10:=hRw'.out w10 e hb10 hg10
     have s10:MS w b S w10 { Sx with T:=setL (setL Sx.T 0 n e) 1 n e }:=s9.put hg10 (.inr (by simp only [klM,hab2]; simp [oB]; right; right; right; right; right; right; right; right; rfl)) (fun x hx => .inl hx)
     have fx10:=fx9.grown hg10 (fun e9=>hgfT (Option.some.inj e9).symm)
     clear h9 s9 bx9 fx9 hRk hb10 hg10
     go_wp2
     go_roundw
     case rel=>exact ⟨n + 1,_,by omega,by go_num,h10,s10,fx10,hkx,hF12⟩
     case measure=>simp [intOf]; omega
    | false=>
     rw [hsh] at hg3
     go_wp2_with (refine wpList_stv rfl _ _ _ rfl gx 2 _ [.bool false] rfl rfl rfl _ _ bx9 (by show 2 + 1 ≤ 3; omega) (by kernel_rfl) (fun u hu=>by cases List.mem_singleton.1 hu; rfl) ?_)
     intro w10 bx hg10
     have bx:Blk w10 gx (enC ⟨1,(f:Int),false⟩) 67:=bx
     have hx:MkO w10 B b (Sn.frs (Sn.H.m.fs.set f (upFr X))):=hx0.locE bx9 hkgx.out hfar.out hgxB hg10
     have sx:=sx0.loc hg10 hgxw.out
     have fx1:=fx9.grown hg10 (fun e9=>hgfx (Option.some.inj e9).symm)
     clear hcx
     have hcx:=bx.cell
     unfold enC at hcx
     have hkx:Hid (¬ kbM b (Sn.frs (Sn.H.m.fs.set f (upFr X))) gf):=hkf
     have hkgx:Hid (¬ kbM b (Sn.frs (Sn.H.m.fs.set f (upFr X))) gx):=hkgx
     have hT2:(Sn.frs (Sn.H.m.fs.set f (upFr X))).T.length = 2:=hTSn
     have h64a:(lstT (Sn.frs (Sn.H.m.fs.set f (upFr X))).T 0).length = 64:=h64.out 0 (by decide)
     have h64b:(lstT (Sn.frs (Sn.H.m.fs.set f (upFr X))).T 1).length = 64:=h64.out 1 (by decide)
     have hF12:Hid (Kep S5 { (Sn.frs (Sn.H.m.fs.set f (upFr X))) with T:=setL (setL (Sn.frs (Sn.H.m.fs.set f (upFr X))).T 0 n (⟨1,(f:Int),false⟩:En)) 1 n (⟨1,(f:Int),false⟩:En) } ∧ Bd (Sn.frs (Sn.H.m.fs.set f (upFr X))).H.ma (setL (setL (Sn.frs (Sn.H.m.fs.set f (upFr X))).T 0 n (⟨1,(f:Int),false⟩:En)) 1 n (⟨1,(f:Int),false⟩:En)) ∧ ∀ j:Nat,n + 1 ≤ j → entT (setL (setL (Sn.frs (Sn.H.m.fs.set f (upFr X))).T 0 n (⟨1,(f:Int),false⟩:En)) 1 n (⟨1,(f:Int),false⟩:En)) 0 j = t0.getD j zEn ∧ (entT (setL (setL (Sn.frs (Sn.H.m.fs.set f (upFr X))).T 0 n (⟨1,(f:Int),false⟩:En)) 1 n (⟨1,(f:Int),false⟩:En)) 1 j).k = 0):=Lib.hid (by
      have hK:=hN.out.1
      have hB:=hN.out.2.1
      obtain ⟨hpg,hL,har,hE,he0,hog⟩:=hall.out
      have h12:=hB.share1 (w:=false) hL hn64 har.1 (by rw [he0]; exact hk1) (hN.out.2.2 n (Nat.le_refl _)).2 hpg (by rw [he0]; exact hf0) (by rw [he0,hsh]; rfl)
      rw [hX'.out,show (⟨1,(f:Int),false⟩:En) = (⟨1,(f:Int),false⟩:En) from by rw [← hf0,← hk1]] at h12
      have hE2:entE (⟨1,(f:Int),false⟩:En) = 0:=by
       rw [entE_iff] at hE ⊢
       rcases hE with h9 | h9 | h9
       ·omega
       ·first
        | exact .inr (.inl ⟨h9.1,h9.2⟩)
        | exact .inr (.inl ⟨rfl,by show (0:Int) ≤ f; omega,by show (f:Int) < 40; omega⟩)
       ·omega
      exact ⟨⟨hK.sp,hK.fi,hK.ct,hK.dk,by show (Sn.H.m.fs.set f (upFr X)).length = _; rw [List.length_set]; exact hK.fl,hK.sl⟩,h12,fun j hj=>by
       show entT (setL (setL Sn.T 0 n (⟨1,(f:Int),false⟩:En)) 1 n (⟨1,(f:Int),false⟩:En)) 0 j = _ ∧ (entT (setL (setL Sn.T 0 n (⟨1,(f:Int),false⟩:En)) 1 n (⟨1,(f:Int),false⟩:En)) 1 j).k = 0
       rw [ent_two hB.ok hL hn64 hE2 _ _ (by omega),ent_two hB.ok hL hn64 hE2 _ _ (by omega)]
       exact hN.out.2.2 j (by omega)⟩)
     generalize hSx:(Sn.frs (Sn.H.m.fs.set f (upFr X))) = Sx at hx sx hkx hkgx hT2 h64a h64b hF12
     clear hx0 sx0 bx9 fx9 hg10
     obtain ⟨gT2,oT2,_,hab2,hgT2B,hkT2,_⟩:=hx.ent (p:=0) (n:=n) (by omega) hn64 h64a
     have hgxT:gx ≠ gT2:=fun e9=>hkgx.out (.inr (by rw [e9]; simp [klM,hab2,oB]; right; right; right; right; right; right; right; right; rfl))
     have hgfT:gf ≠ gT2:=fun e9=>hkx.out (.inr (by rw [e9]; simp [klM,hab2,oB]; right; right; right; right; right; right; right; right; rfl))
     go_upto_region 12 with (fail)
     refine wp_growR 17 [isV (.pointer (some ⟨b,0,none⟩)),isV (.pointer (some ⟨b,0,none⟩)),isV (.pointer (some ⟨b,12,none⟩)),isV (.slice (some ⟨gT2,oT2,none⟩) 2 Sx.cb),isV (.int .i64 (n:Int)),isV (.pointer (some ⟨b,0,none⟩)),isV (.pointer (some ⟨b,0,none⟩)),isV (.pointer (some ⟨b,12,none⟩)),isV (.slice (some ⟨gT2,oT2,none⟩) 2 Sx.cb),isV (.int .i64 (n:Int)),isV (.agg (enC (⟨1,(f:Int),false⟩:En))),isV (.agg (enC (⟨1,(f:Int),false⟩:En))),isV (.pointer (some ⟨gT2,oT2,none⟩)),isV (.pointer (some ⟨gT2,oT2 + n * 3,none⟩)),(fixR fun _=>True),isV (.pointer (some ⟨gT2,oT2 + 192,none⟩)),isV (.pointer (some ⟨gT2,oT2 + 192 + n * 3,none⟩))] (jTwo S Sx { Sx with T:=setL Sx.T 0 n (⟨1,(f:Int),false⟩:En) } B b w gx gf (⟨1,(f:Int),false⟩:En) (fC (onesF p0.ar))) jTwo_st (fun _=>⟨⟨bx,fx1⟩,fun _=>⟨hx,sx⟩,fun h=>(by cases h)⟩) (fix_cons (fun _ _ _ h=>h) (fix_cons (fun _ _ _ h=>h) (fix_cons (fun _ _ _ h=>h) (fix_cons (fun _ _ _ h=>h) (fix_cons (fun _ _ _ h=>h) (fix_cons (fun _ _ _ h=>h) (fix_cons (fun _ _ _ h=>h) (fix_cons (fun _ _ _ h=>h) (fix_cons (fun _ _ _ h=>h) (fix_cons (fun _ _ _ h=>h) (fix_cons (fun _ _ _ h=>h) (fix_cons (fun _ _ _ h=>h) (fix_cons (fun _ _ _ h=>h) (fix_cons (fun _ _ _ h=>h) (fix_cons (fun _ _ _ h=>h) (fix_cons (fun _ _ _ h=>h) (fix_cons (fun _ _ _ h=>h) (fix_nil)))))))))))))))))) (by kernel_rfl) _ rfl (by kernel_rfl) (by kernel_rfl) (by decide) _ rfl (by kernel_rfl) (all_cons (gaq jTwo_st (fun _ _ _ _ h=>h) (gwf rfl) (gmv rfl (gkp rfl rfl) rfl)) (all_cons (gaq jTwo_st (fun _ _ _ _ h=>h) (gwf rfl) (gnc rfl (gkv 0 rfl rfl rfl) rfl)) (all_cons (gaq jTwo_st (fun _ _ _ _ h=>h) (gwf rfl) (gfa rfl (gkv 1 rfl rfl rfl) rfl (fun _=>by kernel_rfl))) (all_cons ?_ (all_cons (gaq jTwo_st (fun _ _ _ _ h=>h) (gwf rfl) (gmv rfl (gkp rfl rfl) rfl)) (all_cons (gaq jTwo_st (fun _ _ _ _ h=>h) (gwf rfl) (gmv rfl (gkp rfl rfl) rfl)) (all_cons (gaq jTwo_st (fun _ _ _ _ h=>h) (gwf rfl) (gnc rfl (gkv 5 rfl rfl rfl) rfl)) (all_cons (gaq jTwo_st (fun _ _ _ _ h=>h) (gwf rfl) (gfa rfl (gkv 6 rfl rfl rfl) rfl (fun _=>by kernel_rfl))) (all_cons ?_ (all_cons (gaq jTwo_st (fun _ _ _ _ h=>h) (gwf rfl) (gmv rfl (gkp rfl rfl) rfl)) (all_cons ?_ (all_cons ?_ (all_cons ?_ (all_cons ?_ (all_cons ?_ (all_cons ?_ (all_cons ?_ (all_nil)))))))))))))))))) ?_
     ·intro ρ y W L hw hn hLi hLd hb hd
      refine askQ jTwo_st (fun _ _ h=>h) hb ?_
      have E93:=hw 93 2 rfl
      have h2:y 2 = _:=hd 2 rfl
      have hcc:=jTwo_ab hb (by simp [mkC,setL])
      refine asked_val (.slice (some ⟨gT2,oT2,none⟩) 2 Sx.cb) (want_free rfl) (by simp [execOp,go_sem,stripO,E93,h2,hcc,mkC,hab2,hT2]) rfl
     ·intro ρ y W L hw hn hLi hLd hb hd
      refine askQ jTwo_st (fun _ _ h=>h) hb ?_
      have E98:=hw 98 7 rfl
      have h7:y 7 = _:=hd 7 rfl
      have hcc:=jTwo_ab hb (by simp [mkC,setL])
      refine asked_val (.slice (some ⟨gT2,oT2,none⟩) 2 Sx.cb) (want_free rfl) (by simp [execOp,go_sem,stripO,E98,h7,hcc,mkC,hab2,hT2]) rfl
     ·intro ρ y W L hw hn hLi hLd hb hd
      refine askQ jTwo_st (fun _ _ h=>h) hb ?_
      have E4:ρ (.tmp 4) = .pointer (some ⟨gx,0,none⟩):=(hn (.tmp 4) rfl).trans rfl
      refine asked_val (.agg (enC (⟨1,(f:Int),false⟩:En))) (want_free rfl) (run_load_blk rfl E4 hb.1.1 Try.underlying67 rfl entry_size3) rfl
     ·intro ρ y W L hw hn hLi hLd hb hd
      refine askQ jTwo_st (fun _ _ h=>h) hb ?_
      have E4:ρ (.tmp 4) = .pointer (some ⟨gx,0,none⟩):=(hn (.tmp 4) rfl).trans rfl
      refine asked_val (.agg (enC (⟨1,(f:Int),false⟩:En))) (want_free rfl) (run_load_blk rfl E4 hb.1.1 Try.underlying67 rfl entry_size3) rfl
     ·intro ρ y W L hw hn hLi hLd hb hd
      refine askQ jTwo_st (fun _ _ h=>h) hb ?_
      have E94:=hw 94 3 rfl
      have h3:y 3 = _:=hd 3 rfl
      refine asked_val (.pointer (some ⟨gT2,oT2,none⟩)) (want_free rfl) (run_idx (i:=0) rfl (E94.trans h3) (hn (.const _) trivial) (by decide) Try.underlying87 ents_size) rfl
     ·intro ρ y W L hw hn hLi hLd hb hd
      refine askQ jTwo_st (fun _ _ h=>h) hb ?_
      have E103:=hw 103 12 rfl
      have h12:y 12 = _:=hd 12 rfl
      have E95:=hw 95 4 rfl
      have h4:y 4 = _:=hd 4 rfl
      have hn9:((64:Int) ≤ (n:Int)) = False:=eq_false (by omega)
      refine asked_val (.pointer (some ⟨gT2,oT2 + n * 3,none⟩)) (want_free rfl) (by simp [execOp,go_sem,stripO,E103,h12,E95,h4,hn64,hn9]) rfl
     ·intro ρ y W L hw hn hLi hLd hb hd; have E104:=hw 104 13 rfl; have h13:y 13 = _:=hd 13 rfl; have E101:=hw 101 10 rfl; have h10:y 10 = _:=hd 10 rfl
      obtain ⟨hm9,hs9⟩:=hb.2.1 hLi
      obtain ⟨gQ,oQ,curQ,hQ,hQB,hQk,hQs,_,hQw⟩:=hm9.ent (p:=0) (n:=n) (by omega) hn64 h64a
      cases (hQ.symm.trans hab2)
      rw [Nat.zero_mul,Nat.add_zero] at hQs hQw
      exact asked_stQ (want_free rfl) (run_stv _ _ _ rfl gT2 (oT2 + n * 3) _ (enL (⟨1,(f:Int),false⟩:En)) (E104.trans h13) (E101.trans h10) rfl curQ _ hQk (by rw [enL_len]; exact hQs) (by kernel_rfl) (one_toList (enC_one _))) ⟨⟨hb.1.1.grown (grownBy_setCells _ _ _ _) (fun e9=>hgxT (Option.some.inj e9).symm),hb.1.2.grown (grownBy_setCells _ _ _ _) (fun e9=>hgfT (Option.some.inj e9).symm)⟩,fun h=>(by cases h),fun _=>⟨hQw _ (⟨1,(f:Int),false⟩:En) (hQk.setCells _ _) (grownBy_setCells _ _ _ _),hs9.put (grownBy_setCells _ _ _ _) (.inr (by simp only [klM,hab2]; simp [oB]; right; right; right; right; right; right; right; right; rfl)) (fun x hx => .inl hx)⟩⟩ trivial
     ·intro ρ y W L hw hn hLi hLd hb hd
      refine askQ jTwo_st (fun _ _ h=>h) hb ?_
      have E99:=hw 99 8 rfl
      have h8:y 8 = _:=hd 8 rfl
      refine asked_val (.pointer (some ⟨gT2,oT2 + 192,none⟩)) (want_free rfl) (run_idx (i:=1) rfl (E99.trans h8) (hn (.const _) trivial) (by decide) Try.underlying87 ents_size) rfl
     ·intro ρ y W L hw hn hLi hLd hb hd
      refine askQ jTwo_st (fun _ _ h=>h) hb ?_
      have E105:=hw 105 15 rfl
      have h15:y 15 = _:=hd 15 rfl
      have E100:=hw 100 9 rfl
      have h9:y 9 = _:=hd 9 rfl
      have hn9:((64:Int) ≤ (n:Int)) = False:=eq_false (by omega)
      refine asked_val (.pointer (some ⟨gT2,oT2 + 192 + n * 3,none⟩)) (want_free rfl) (by simp [execOp,go_sem,stripO,E105,h15,E100,h9,hn64,hn9]) rfl
     intro y W9 hbW9 hRW9
     have hy11:y 11 = _:=hRW9 11 (by decide)
     have hy16:y 16 = _:=hRW9 16 (by decide)
     have hy14:((fixR fun _=>True)).r (y 14) W9:=hRW9 14 (by decide)
     clear hRW9
     simp only [lay,strip,stripO,List.map_cons,List.map_nil,Nat.reduceAdd,Nat.reduceLT,decide_true,decide_false,if_true,Bool.false_eq_true,if_false,List.setIfInBounds_toArray,List.set_cons_zero,List.set_cons_succ,List.drop_succ_cons,List.drop_zero,List.drop_nil,hy11,hy16]
     clear hy11 hy16
     obtain ⟨⟨bx9,fx9⟩,_,hq9⟩:=hbW9
     obtain ⟨h9,s9⟩:=hq9 rfl
     have hT9:(setL Sx.T 0 n (⟨1,(f:Int),false⟩:En)).length = 2:=by unfold setL; rw [List.length_set]; exact hT2
     obtain ⟨gR,oR',curR,hR,hRB,hRk,hRs,_,hRw⟩:=h9.ent (p:=1) (n:=n) (by show 1 < (setL Sx.T 0 n (⟨1,(f:Int),false⟩:En)).length; omega) hn64 (by
      show (lstT (setL Sx.T 0 n (⟨1,(f:Int),false⟩:En)) 1).length = 64
      rw [lstT_set (by omega),if_neg (by decide)]
      exact h64b)
     have hR:Sx.ab = some ⟨gR,oR',none⟩:=hR
     cases (hR.symm.trans hab2)
     rw [Nat.one_mul] at hRs hRw
     have hRw':=Lib.hid hRw
     clear hRw hq9 hx sx bx fx1
     go_wp2_with (refine wpList_stv rfl _ _ _ rfl gT2 (oT2 + 192 + n * 3) _ (enL (⟨1,(f:Int),false⟩:En)) rfl rfl rfl _ _ hRk (by rw [enL_len]; exact hRs) (by kernel_rfl) (one_toList (enC_one _)) ?_)
     intro w10 hb10 hg10
     have h10:=hRw'.out w10 (⟨1,(f:Int),false⟩:En) hb10 hg10
     have s10:MS w b S w10 { Sx with T:=setL (setL Sx.T 0 n (⟨1,(f:Int),false⟩:En)) 1 n (⟨1,(f:Int),false⟩:En) }:=s9.put hg10 (.inr (by simp only [klM,hab2]; simp [oB]; right; right; right; right; right; right; right; right; rfl)) (fun x hx => .inl hx)
     have fx10:=fx9.grown hg10 (fun e9=>hgfT (Option.some.inj e9).symm)
     clear h9 s9 bx9 fx9 hRk hb10 hg10
     go_wp2
     go_roundw
     case rel=>exact ⟨n + 1,_,by omega,by go_num,h10,s10,fx10,hkx,hF12⟩
     case measure=>simp [intOf]; omega
   ·by_cases hk2:e.k = 2
    ·have hK:=hN.out.1
     have hB:=hN.out.2.1
     have hL:Sn.H.ma.sp.length = 2:=by rw [← hB.ok.len]; exact hTSn
     have he0:entT Sn.T 0 n = e:=by rw [(hN.out.2.2 n (Nat.le_refl _)).1]; exact he'.out
     have hE:=entT_E hB.ok (p:=0) (n:=n) (by omega) hn64
     rw [he0] at hE
     have hfe:=fullM_ent hB.ok (p:=0) (n:=n) (by omega) hn64
     rw [he0] at hfe
     obtain ⟨g,hpg,hfit⟩:=hB.rt.en 0 n (by rw [hfe,hk2]; decide)
     rw [hfe] at hfit
     have hn0:0 ≤ e.n:=by rcases (entE_iff _).1 hE with h9 | h9 | h9 <;> omega
     obtain ⟨s0,hs0⟩:=Int.eq_ofNat_of_zero_le hn0
     have hsl:s0 < Sn.H.sl.length:=by
      have h9:=(hfit.sw hk2).1
      have e1:((fullM Sn.H.ma Sn.T).sl.length:Nat) = Sn.H.sl.length:=rfl
      omega
     obtain ⟨gs,off,cap,cur,hv,hgB,hgk,hgs,hgc,hgw⟩:=Own.put (enc:=fun x=>[inV x]) (sz:=1) (l:=Sn.H.sl) (fun _=>rfl) Nat.one_pos (by rw [flat_one]; exact hm1.ma.sl) s0 hsl
     have has:Sn.H.asl = some ⟨gs,off,none⟩:=(Value.slice.inj hv).1
     rw [Nat.mul_one] at hgs hgc hgw
     have hz0:slN Sn.H.ma s0 = Sn.H.sl[s0]:=by
      unfold slN
      show Sn.H.sl.getD s0 0 = _
      rw [List.getD_eq_getElem?_getD,List.getElem?_eq_getElem hsl]; rfl
     have hfw9:=hB.rt.fewS (s:=s0) hsl
     have hfw8:0 ≤ Sn.H.sl[s0] ∧ Sn.H.sl[s0] ≤ 256:=by rw [← hz0]; exact hfw9
     have hgw':=Lib.hid hgw
     have hz0':=Lib.hid hz0
     have hc0:∀ W,Below W1.heap.size W1 W → W.cell? ⟨gs,off + s0,none⟩ = some (.int .i64 Sn.H.sl[s0]):=fun W hb=>by
      have h9:=hgc 0 _ rfl
      rw [Nat.add_zero] at h9
      have h8:=(hgk.ext hb).cell (off + s0)
      rw [h8,← hgk.cell]; exact h9
     have hps:=Lib.hid (And.intro hpg hL)
     clear hz0 hgw hgc hfw9 hv hpg hfit hE hfe hK hB hL hn0
     generalize Sn.H.sl[s0] = v0 at hc0 hfw8 hz0'
     have hw0:IntKind.i64.wrap (v0 + 1) = v0 + 1:=IntWalk.i64_in _ (by omega)
     have he0':=Lib.hid he0
     clear he0
     go_upto_region 11 with (fail)
     refine wp_growP 11 [_,_,_,_,_,_,_,_,_,_,_] (Gk rfl (Gk rfl (Gf b 1 rfl rfl (Gf b 3 rfl rfl (Gl hm1.blk (V:=.slice (some ⟨gs,off,none⟩) Sn.H.sl.length Sn.H.csl) (by simp [mkC,has]) rfl rfl rfl rfl (Gf gx 1 rfl rfl (Gl bx1 (V:=.int .i64 (s0:Int)) (by simp [enC,hs0]) rfl rfl rfl rfl (Gr (.pointer (some ⟨gs,off + s0,none⟩)) (fun ρ y W hb hk=>(run_idxS rfl (kx_at rfl hk) (kx_at rfl hk) hsl)) rfl rfl (Gc (.int .i64 v0) (fun W hb=>by simp [hc0 _ hb]) rfl rfl rfl rfl (Gb (.int .i64 (v0 + 1)) (by simp [go_sem,hw0]) rfl rfl rfl rfl rfl (Gr (.pointer (some ⟨gs,off + s0,none⟩)) (fun ρ y W hb hk=>(run_idxS rfl (kx_at rfl hk) (kx_at rfl hk) hsl)) rfl rfl (all_nil)))))))))))) (fun _=>rfl) rfl ?_
     intro y W8 hbW8 _
     have hgk8:=hgk.ext hbW8
     have hm8:=hm1.below hbW8
     have sm8:=sm1.below hbW8
     have bx8:=bx1.ext hbW8
     have fx8:=fx1.ext hbW8
     clear hm1 sm1 bx1 fx1 hgk hcx hc0 hbW8
     go_wp2_with (refine wpList_stv rfl _ _ _ rfl gs (off + s0) _ [.int .i64 (v0 + 1)] rfl rfl rfl _ _ hgk8 (by show off + s0 + 1 ≤ cur.size; omega) (by kernel_rfl) (fun u hu=>by cases List.mem_singleton.1 hu; rfl) ?_)
     intro w9 hb9 hg9
     have hga:oB Sn.H.asl = some gs:=by rw [has]; rfl
     have hx:MkO w9 B b { Sn with H:={ Sn.H with sl:=Sn.H.sl.set s0 (v0 + 1) } }:=hm8.putS hgk8 hgB hga hg9 (sl:=Sn.H.sl.set s0 (v0 + 1)) (by simp) (by
      have h9:=hgw'.out w9 (v0 + 1) hb9
      rw [flat_one] at h9
      simpa using h9)
     have sx:MS w b S w9 { Sn with H:={ Sn.H with sl:=Sn.H.sl.set s0 (v0 + 1) } }:=sm8.put hg9 (.inr (by simp [klM,hga])) (fun x hx => .inl hx)
     have bx:=blk_keep bx8 hgk8 (by decide) hg9
     have fx1:=blk_keep fx8 hgk8 (by decide) hg9
     have hkx:Hid (¬ kbM b ({ Sn with H:={ Sn.H with sl:=Sn.H.sl.set s0 (v0 + 1) } }:MW) gf):=hkf
     have hkgx:Hid (¬ kbM b ({ Sn with H:={ Sn.H with sl:=Sn.H.sl.set s0 (v0 + 1) } }:MW) gx):=hkgx
     have hT2:({ Sn with H:={ Sn.H with sl:=Sn.H.sl.set s0 (v0 + 1) } }:MW).T.length = 2:=hTSn
     have h64a:(lstT ({ Sn with H:={ Sn.H with sl:=Sn.H.sl.set s0 (v0 + 1) } }:MW).T 0).length = 64:=h64.out 0 (by decide)
     have h64b:(lstT ({ Sn with H:={ Sn.H with sl:=Sn.H.sl.set s0 (v0 + 1) } }:MW).T 1).length = 64:=h64.out 1 (by decide)
     have hF12:Hid (Kep S5 { ({ Sn with H:={ Sn.H with sl:=Sn.H.sl.set s0 (v0 + 1) } }:MW) with T:=setL (setL ({ Sn with H:={ Sn.H with sl:=Sn.H.sl.set s0 (v0 + 1) } }:MW).T 0 n e) 1 n e } ∧ Bd ({ Sn with H:={ Sn.H with sl:=Sn.H.sl.set s0 (v0 + 1) } }:MW).H.ma (setL (setL ({ Sn with H:={ Sn.H with sl:=Sn.H.sl.set s0 (v0 + 1) } }:MW).T 0 n e) 1 n e) ∧ ∀ j:Nat,n + 1 ≤ j → entT (setL (setL ({ Sn with H:={ Sn.H with sl:=Sn.H.sl.set s0 (v0 + 1) } }:MW).T 0 n e) 1 n e) 0 j = t0.getD j zEn ∧ (entT (setL (setL ({ Sn with H:={ Sn.H with sl:=Sn.H.sl.set s0 (v0 + 1) } }:MW).T 0 n e) 1 n e) 1 j).k = 0):=Lib.hid (by
      have hK:=hN.out.1
      have hB:=hN.out.2.1
      have hL:=hps.out.2
      have hE:=entT_E hB.ok (p:=0) (n:=n) (by omega) hn64
      rw [he0'.out] at hE
      have hpg:=hps.out.1
      rw [fullM_pg (by omega)] at hpg
      have har:(spN Sn.H.ma 1).ar = (spN Sn.H.ma 0).ar:=by
       show ((Sn.H.sp.map PS.sp).getD 1 zSp).ar = ((Sn.H.sp.map PS.sp).getD 0 zSp).ar
       rw [hK.sp,hSp5.out,hsp'.out]; rfl
      have h12:=hB.share2 hL hn64 har (by rw [he0'.out]; exact hk2) (hN.out.2.2 n (Nat.le_refl _)).2 hpg (by rw [he0'.out]; exact hs0)
      rw [he0'.out,hz0'.out] at h12
      exact ⟨⟨hK.sp,hK.fi,hK.ct,hK.dk,hK.fl,by show (Sn.H.sl.set s0 (v0 + 1)).length = _; rw [List.length_set]; exact hK.sl⟩,h12,fun j hj=>by
       show entT (setL (setL Sn.T 0 n e) 1 n e) 0 j = _ ∧ (entT (setL (setL Sn.T 0 n e) 1 n e) 1 j).k = 0
       rw [ent_two hB.ok hL hn64 hE _ _ (by omega),ent_two hB.ok hL hn64 hE _ _ (by omega)]
       exact hN.out.2.2 j (by omega)⟩)
     clear hm8 sm8 bx8 fx8 hgk8 hb9 hg9 has hga
     generalize hSx:({ Sn with H:={ Sn.H with sl:=Sn.H.sl.set s0 (v0 + 1) } }:MW) = Sx at hx sx hkx hkgx hT2 h64a h64b hF12
     obtain ⟨gT2,oT2,_,hab2,hgT2B,hkT2,_⟩:=hx.ent (p:=0) (n:=n) (by omega) hn64 h64a
     have hgxT:gx ≠ gT2:=fun e9=>hkgx.out (.inr (by rw [e9]; simp [klM,hab2,oB]; right; right; right; right; right; right; right; right; rfl))
     have hgfT:gf ≠ gT2:=fun e9=>hkx.out (.inr (by rw [e9]; simp [klM,hab2,oB]; right; right; right; right; right; right; right; right; rfl))
     go_upto_region 12 with (fail)
     refine wp_growR 17 [isV (.pointer (some ⟨b,0,none⟩)),isV (.pointer (some ⟨b,0,none⟩)),isV (.pointer (some ⟨b,12,none⟩)),isV (.slice (some ⟨gT2,oT2,none⟩) 2 Sx.cb),isV (.int .i64 (n:Int)),isV (.pointer (some ⟨b,0,none⟩)),isV (.pointer (some ⟨b,0,none⟩)),isV (.pointer (some ⟨b,12,none⟩)),isV (.slice (some ⟨gT2,oT2,none⟩) 2 Sx.cb),isV (.int .i64 (n:Int)),isV (.agg (enC e)),isV (.agg (enC e)),isV (.pointer (some ⟨gT2,oT2,none⟩)),isV (.pointer (some ⟨gT2,oT2 + n * 3,none⟩)),(fixR fun _=>True),isV (.pointer (some ⟨gT2,oT2 + 192,none⟩)),isV (.pointer (some ⟨gT2,oT2 + 192 + n * 3,none⟩))] (jTwo S Sx { Sx with T:=setL Sx.T 0 n e } B b w gx gf e (fC (onesF p0.ar))) jTwo_st (fun _=>⟨⟨bx,fx1⟩,fun _=>⟨hx,sx⟩,fun h=>(by cases h)⟩) (fix_cons (fun _ _ _ h=>h) (fix_cons (fun _ _ _ h=>h) (fix_cons (fun _ _ _ h=>h) (fix_cons (fun _ _ _ h=>h) (fix_cons (fun _ _ _ h=>h) (fix_cons (fun _ _ _ h=>h) (fix_cons (fun _ _ _ h=>h) (fix_cons (fun _ _ _ h=>h) (fix_cons (fun _ _ _ h=>h) (fix_cons (fun _ _ _ h=>h) (fix_cons (fun _ _ _ h=>h) (fix_cons (fun _ _ _ h=>h) (fix_cons (fun _ _ _ h=>h) (fix_cons (fun _ _ _ h=>h) (fix_cons (fun _ _ _ h=>h) (fix_cons (fun _ _ _ h=>h) (fix_cons (fun _ _ _ h=>h) (fix_nil)))))))))))))))))) (by kernel_rfl) _ rfl (by kernel_rfl) (by kernel_rfl) (by decide) _ rfl (by kernel_rfl) (all_cons (gaq jTwo_st (fun _ _ _ _ h=>h) (gwf rfl) (gmv rfl (gkp rfl rfl) rfl)) (all_cons (gaq jTwo_st (fun _ _ _ _ h=>h) (gwf rfl) (gnc rfl (gkv 0 rfl rfl rfl) rfl)) (all_cons (gaq jTwo_st (fun _ _ _ _ h=>h) (gwf rfl) (gfa rfl (gkv 1 rfl rfl rfl) rfl (fun _=>by kernel_rfl))) (all_cons ?_ (all_cons (gaq jTwo_st (fun _ _ _ _ h=>h) (gwf rfl) (gmv rfl (gkp rfl rfl) rfl)) (all_cons (gaq jTwo_st (fun _ _ _ _ h=>h) (gwf rfl) (gmv rfl (gkp rfl rfl) rfl)) (all_cons (gaq jTwo_st (fun _ _ _ _ h=>h) (gwf rfl) (gnc rfl (gkv 5 rfl rfl rfl) rfl)) (all_cons (gaq jTwo_st (fun _ _ _ _ h=>h) (gwf rfl) (gfa rfl (gkv 6 rfl rfl rfl) rfl (fun _=>by kernel_rfl))) (all_cons ?_ (all_cons (gaq jTwo_st (fun _ _ _ _ h=>h) (gwf rfl) (gmv rfl (gkp rfl rfl) rfl)) (all_cons ?_ (all_cons ?_ (all_cons ?_ (all_cons ?_ (all_cons ?_ (all_cons ?_ (all_cons ?_ (all_nil)))))))))))))))))) ?_
     ·intro ρ y W L hw hn hLi hLd hb hd
      refine askQ jTwo_st (fun _ _ h=>h) hb ?_
      have E93:=hw 93 2 rfl
      have h2:y 2 = _:=hd 2 rfl
      have hcc:=jTwo_ab hb (by simp [mkC,setL])
      refine asked_val (.slice (some ⟨gT2,oT2,none⟩) 2 Sx.cb) (want_free rfl) (by simp [execOp,go_sem,stripO,E93,h2,hcc,mkC,hab2,hT2]) rfl
     ·intro ρ y W L hw hn hLi hLd hb hd
      refine askQ jTwo_st (fun _ _ h=>h) hb ?_
      have E98:=hw 98 7 rfl
      have h7:y 7 = _:=hd 7 rfl
      have hcc:=jTwo_ab hb (by simp [mkC,setL])
      refine asked_val (.slice (some ⟨gT2,oT2,none⟩) 2 Sx.cb) (want_free rfl) (by simp [execOp,go_sem,stripO,E98,h7,hcc,mkC,hab2,hT2]) rfl
     ·intro ρ y W L hw hn hLi hLd hb hd
      refine askQ jTwo_st (fun _ _ h=>h) hb ?_
      have E4:ρ (.tmp 4) = .pointer (some ⟨gx,0,none⟩):=(hn (.tmp 4) rfl).trans rfl
      refine asked_val (.agg (enC e)) (want_free rfl) (run_load_blk rfl E4 hb.1.1 Try.underlying67 rfl entry_size3) rfl
     ·intro ρ y W L hw hn hLi hLd hb hd
      refine askQ jTwo_st (fun _ _ h=>h) hb ?_
      have E4:ρ (.tmp 4) = .pointer (some ⟨gx,0,none⟩):=(hn (.tmp 4) rfl).trans rfl
      refine asked_val (.agg (enC e)) (want_free rfl) (run_load_blk rfl E4 hb.1.1 Try.underlying67 rfl entry_size3) rfl
     ·intro ρ y W L hw hn hLi hLd hb hd
      refine askQ jTwo_st (fun _ _ h=>h) hb ?_
      have E94:=hw 94 3 rfl
      have h3:y 3 = _:=hd 3 rfl
      refine asked_val (.pointer (some ⟨gT2,oT2,none⟩)) (want_free rfl) (run_idx (i:=0) rfl (E94.trans h3) (hn (.const _) trivial) (by decide) Try.underlying87 ents_size) rfl
     ·intro ρ y W L hw hn hLi hLd hb hd
      refine askQ jTwo_st (fun _ _ h=>h) hb ?_
      have E103:=hw 103 12 rfl
      have h12:y 12 = _:=hd 12 rfl
      have E95:=hw 95 4 rfl
      have h4:y 4 = _:=hd 4 rfl
      have hn9:((64:Int) ≤ (n:Int)) = False:=eq_false (by omega)
      refine asked_val (.pointer (some ⟨gT2,oT2 + n * 3,none⟩)) (want_free rfl) (by simp [execOp,go_sem,stripO,E103,h12,E95,h4,hn64,hn9]) rfl
     ·intro ρ y W L hw hn hLi hLd hb hd; have E104:=hw 104 13 rfl; have h13:y 13 = _:=hd 13 rfl; have E101:=hw 101 10 rfl; have h10:y 10 = _:=hd 10 rfl
      obtain ⟨hm9,hs9⟩:=hb.2.1 hLi
      obtain ⟨gQ,oQ,curQ,hQ,hQB,hQk,hQs,_,hQw⟩:=hm9.ent (p:=0) (n:=n) (by omega) hn64 h64a
      cases (hQ.symm.trans hab2)
      rw [Nat.zero_mul,Nat.add_zero] at hQs hQw
      exact asked_stQ (want_free rfl) (run_stv _ _ _ rfl gT2 (oT2 + n * 3) _ (enL e) (E104.trans h13) (E101.trans h10) rfl curQ _ hQk (by rw [enL_len]; exact hQs) (by kernel_rfl) (one_toList (enC_one _))) ⟨⟨hb.1.1.grown (grownBy_setCells _ _ _ _) (fun e9=>hgxT (Option.some.inj e9).symm),hb.1.2.grown (grownBy_setCells _ _ _ _) (fun e9=>hgfT (Option.some.inj e9).symm)⟩,fun h=>(by cases h),fun _=>⟨hQw _ e (hQk.setCells _ _) (grownBy_setCells _ _ _ _),hs9.put (grownBy_setCells _ _ _ _) (.inr (by simp only [klM,hab2]; simp [oB]; right; right; right; right; right; right; right; right; rfl)) (fun x hx => .inl hx)⟩⟩ trivial
     ·intro ρ y W L hw hn hLi hLd hb hd
      refine askQ jTwo_st (fun _ _ h=>h) hb ?_
      have E99:=hw 99 8 rfl
      have h8:y 8 = _:=hd 8 rfl
      refine asked_val (.pointer (some ⟨gT2,oT2 + 192,none⟩)) (want_free rfl) (run_idx (i:=1) rfl (E99.trans h8) (hn (.const _) trivial) (by decide) Try.underlying87 ents_size) rfl
     ·intro ρ y W L hw hn hLi hLd hb hd
      refine askQ jTwo_st (fun _ _ h=>h) hb ?_
      have E105:=hw 105 15 rfl
      have h15:y 15 = _:=hd 15 rfl
      have E100:=hw 100 9 rfl
      have h9:y 9 = _:=hd 9 rfl
      have hn9:((64:Int) ≤ (n:Int)) = False:=eq_false (by omega)
      refine asked_val (.pointer (some ⟨gT2,oT2 + 192 + n * 3,none⟩)) (want_free rfl) (by simp [execOp,go_sem,stripO,E105,h15,E100,h9,hn64,hn9]) rfl
     intro y W9 hbW9 hRW9
     have hy11:y 11 = _:=hRW9 11 (by decide)
     have hy16:y 16 = _:=hRW9 16 (by decide)
     have hy14:((fixR fun _=>True)).r (y 14) W9:=hRW9 14 (by decide)
     clear hRW9
     simp only [lay,strip,stripO,List.map_cons,List.map_nil,Nat.reduceAdd,Nat.reduceLT,decide_true,decide_false,if_true,Bool.false_eq_true,if_false,List.setIfInBounds_toArray,List.set_cons_zero,List.set_cons_succ,List.drop_succ_cons,List.drop_zero,List.drop_nil,hy11,hy16]
     clear hy11 hy16
     obtain ⟨⟨bx9,fx9⟩,_,hq9⟩:=hbW9
     obtain ⟨h9,s9⟩:=hq9 rfl
     have hT9:(setL Sx.T 0 n e).length = 2:=by unfold setL; rw [List.length_set]; exact hT2
     obtain ⟨gR,oR',curR,hR,hRB,hRk,hRs,_,hRw⟩:=h9.ent (p:=1) (n:=n) (by show 1 < (setL Sx.T 0 n e).length; omega) hn64 (by
      show (lstT (setL Sx.T 0 n e) 1).length = 64
      rw [lstT_set (by omega),if_neg (by decide)]
      exact h64b)
     have hR:Sx.ab = some ⟨gR,oR',none⟩:=hR
     cases (hR.symm.trans hab2)
     rw [Nat.one_mul] at hRs hRw
     have hRw':=Lib.hid hRw
     clear hRw hq9 hx sx bx fx1
     go_wp2_with (refine wpList_stv rfl _ _ _ rfl gT2 (oT2 + 192 + n * 3) _ (enL e) rfl rfl rfl _ _ hRk (by rw [enL_len]; exact hRs) (by kernel_rfl) (one_toList (enC_one _)) ?_)
     intro w10 hb10 hg10
     have h10:=hRw'.out w10 e hb10 hg10
     have s10:MS w b S w10 { Sx with T:=setL (setL Sx.T 0 n e) 1 n e }:=s9.put hg10 (.inr (by simp only [klM,hab2]; simp [oB]; right; right; right; right; right; right; right; right; rfl)) (fun x hx => .inl hx)
     have fx10:=fx9.grown hg10 (fun e9=>hgfT (Option.some.inj e9).symm)
     clear h9 s9 bx9 fx9 hRk hb10 hg10
     go_wp2
     go_roundw
     case rel=>exact ⟨n + 1,_,by omega,by go_num,h10,s10,fx10,hkx,hF12⟩
     case measure=>simp [intOf]; omega
    ·have hx:=hm1
     have sx:=sm1
     have bx:=bx1
     have hkx:=hkf
     have hT2:=hTSn
     have h64a:=h64.out 0 (by decide)
     have h64b:=h64.out 1 (by decide)
     have hF12:Hid (Kep S5 { Sn with T:=setL (setL Sn.T 0 n e) 1 n e } ∧ Bd Sn.H.ma (setL (setL Sn.T 0 n e) 1 n e) ∧ ∀ j:Nat,n + 1 ≤ j → entT (setL (setL Sn.T 0 n e) 1 n e) 0 j = t0.getD j zEn ∧ (entT (setL (setL Sn.T 0 n e) 1 n e) 1 j).k = 0):=Lib.hid (by
      have hK:=hN.out.1
      have hB:=hN.out.2.1
      have hL:Sn.H.ma.sp.length = 2:=by rw [← hB.ok.len]; exact hTSn
      have he0:entT Sn.T 0 n = e:=by rw [(hN.out.2.2 n (Nat.le_refl _)).1]; exact he'.out
      have hE:=entT_E hB.ok (p:=0) (n:=n) (by omega) hn64
      rw [he0] at hE
      have hk0:e.k = 0:=by
       rcases (entE_iff _).1 hE with h9 | h9 | h9
       ·exact h9.1
       ·exact absurd h9.1 hk1
       ·exact absurd h9.1 hk2
      have h12:=hB.share0 hL hn64 (by rw [he0]; exact hk0) (hN.out.2.2 n (Nat.le_refl _)).2
      rw [he0] at h12
      exact ⟨⟨hK.sp,hK.fi,hK.ct,hK.dk,hK.fl,hK.sl⟩,h12,fun j hj=>by
       rw [ent_two hB.ok hL hn64 hE _ _ (by omega),ent_two hB.ok hL hn64 hE _ _ (by omega)]
       exact hN.out.2.2 j (by omega)⟩)
     generalize hSx:Sn = Sx at hx sx hkx hkgx hT2 h64a h64b hF12
     obtain ⟨gT2,oT2,_,hab2,hgT2B,hkT2,_⟩:=hx.ent (p:=0) (n:=n) (by omega) hn64 h64a
     have hgxT:gx ≠ gT2:=fun e9=>hkgx.out (.inr (by rw [e9]; simp [klM,hab2,oB]; right; right; right; right; right; right; right; right; rfl))
     have hgfT:gf ≠ gT2:=fun e9=>hkx.out (.inr (by rw [e9]; simp [klM,hab2,oB]; right; right; right; right; right; right; right; right; rfl))
     go_upto_region 12 with (fail)
     refine wp_growR 17 [isV (.pointer (some ⟨b,0,none⟩)),isV (.pointer (some ⟨b,0,none⟩)),isV (.pointer (some ⟨b,12,none⟩)),isV (.slice (some ⟨gT2,oT2,none⟩) 2 Sx.cb),isV (.int .i64 (n:Int)),isV (.pointer (some ⟨b,0,none⟩)),isV (.pointer (some ⟨b,0,none⟩)),isV (.pointer (some ⟨b,12,none⟩)),isV (.slice (some ⟨gT2,oT2,none⟩) 2 Sx.cb),isV (.int .i64 (n:Int)),isV (.agg (enC e)),isV (.agg (enC e)),isV (.pointer (some ⟨gT2,oT2,none⟩)),isV (.pointer (some ⟨gT2,oT2 + n * 3,none⟩)),(fixR fun _=>True),isV (.pointer (some ⟨gT2,oT2 + 192,none⟩)),isV (.pointer (some ⟨gT2,oT2 + 192 + n * 3,none⟩))] (jTwo S Sx { Sx with T:=setL Sx.T 0 n e } B b w gx gf e (fC (onesF p0.ar))) jTwo_st (fun _=>⟨⟨bx,fx1⟩,fun _=>⟨hx,sx⟩,fun h=>(by cases h)⟩) (fix_cons (fun _ _ _ h=>h) (fix_cons (fun _ _ _ h=>h) (fix_cons (fun _ _ _ h=>h) (fix_cons (fun _ _ _ h=>h) (fix_cons (fun _ _ _ h=>h) (fix_cons (fun _ _ _ h=>h) (fix_cons (fun _ _ _ h=>h) (fix_cons (fun _ _ _ h=>h) (fix_cons (fun _ _ _ h=>h) (fix_cons (fun _ _ _ h=>h) (fix_cons (fun _ _ _ h=>h) (fix_cons (fun _ _ _ h=>h) (fix_cons (fun _ _ _ h=>h) (fix_cons (fun _ _ _ h=>h) (fix_cons (fun _ _ _ h=>h) (fix_cons (fun _ _ _ h=>h) (fix_cons (fun _ _ _ h=>h) (fix_nil)))))))))))))))))) (by kernel_rfl) _ rfl (by kernel_rfl) (by kernel_rfl) (by decide) _ rfl (by kernel_rfl) (all_cons (gaq jTwo_st (fun _ _ _ _ h=>h) (gwf rfl) (gmv rfl (gkp rfl rfl) rfl)) (all_cons (gaq jTwo_st (fun _ _ _ _ h=>h) (gwf rfl) (gnc rfl (gkv 0 rfl rfl rfl) rfl)) (all_cons (gaq jTwo_st (fun _ _ _ _ h=>h) (gwf rfl) (gfa rfl (gkv 1 rfl rfl rfl) rfl (fun _=>by kernel_rfl))) (all_cons ?_ (all_cons (gaq jTwo_st (fun _ _ _ _ h=>h) (gwf rfl) (gmv rfl (gkp rfl rfl) rfl)) (all_cons (gaq jTwo_st (fun _ _ _ _ h=>h) (gwf rfl) (gmv rfl (gkp rfl rfl) rfl)) (all_cons (gaq jTwo_st (fun _ _ _ _ h=>h) (gwf rfl) (gnc rfl (gkv 5 rfl rfl rfl) rfl)) (all_cons (gaq jTwo_st (fun _ _ _ _ h=>h) (gwf rfl) (gfa rfl (gkv 6 rfl rfl rfl) rfl (fun _=>by kernel_rfl))) (all_cons ?_ (all_cons (gaq jTwo_st (fun _ _ _ _ h=>h) (gwf rfl) (gmv rfl (gkp rfl rfl) rfl)) (all_cons ?_ (all_cons ?_ (all_cons ?_ (all_cons ?_ (all_cons ?_ (all_cons ?_ (all_cons ?_ (all_nil)))))))))))))))))) ?_
     ·intro ρ y W L hw hn hLi hLd hb hd
      refine askQ jTwo_st (fun _ _ h=>h) hb ?_
      have E93:=hw 93 2 rfl
      have h2:y 2 = _:=hd 2 rfl
      have hcc:=jTwo_ab hb (by simp [mkC,setL])
      refine asked_val (.slice (some ⟨gT2,oT2,none⟩) 2 Sx.cb) (want_free rfl) (by simp [execOp,go_sem,stripO,E93,h2,hcc,mkC,hab2,hT2]) rfl
     ·intro ρ y W L hw hn hLi hLd hb hd
      refine askQ jTwo_st (fun _ _ h=>h) hb ?_
      have E98:=hw 98 7 rfl
      have h7:y 7 = _:=hd 7 rfl
      have hcc:=jTwo_ab hb (by simp [mkC,setL])
      refine asked_val (.slice (some ⟨gT2,oT2,none⟩) 2 Sx.cb) (want_free rfl) (by simp [execOp,go_sem,stripO,E98,h7,hcc,mkC,hab2,hT2]) rfl
     ·intro ρ y W L hw hn hLi hLd hb hd
      refine askQ jTwo_st (fun _ _ h=>h) hb ?_
      have E4:ρ (.tmp 4) = .pointer (some ⟨gx,0,none⟩):=(hn (.tmp 4) rfl).trans rfl
      refine asked_val (.agg (enC e)) (want_free rfl) (run_load_blk rfl E4 hb.1.1 Try.underlying67 rfl entry_size3) rfl
     ·intro ρ y W L hw hn hLi hLd hb hd
      refine askQ jTwo_st (fun _ _ h=>h) hb ?_
      have E4:ρ (.tmp 4) = .pointer (some ⟨gx,0,none⟩):=(hn (.tmp 4) rfl).trans rfl
      refine asked_val (.agg (enC e)) (want_free rfl) (run_load_blk rfl E4 hb.1.1 Try.underlying67 rfl entry_size3) rfl
     ·intro ρ y W L hw hn hLi hLd hb hd
      refine askQ jTwo_st (fun _ _ h=>h) hb ?_
      have E94:=hw 94 3 rfl
      have h3:y 3 = _:=hd 3 rfl
      refine asked_val (.pointer (some ⟨gT2,oT2,none⟩)) (want_free rfl) (run_idx (i:=0) rfl (E94.trans h3) (hn (.const _) trivial) (by decide) Try.underlying87 ents_size) rfl
     ·intro ρ y W L hw hn hLi hLd hb hd
      refine askQ jTwo_st (fun _ _ h=>h) hb ?_
      have E103:=hw 103 12 rfl
      have h12:y 12 = _:=hd 12 rfl
      have E95:=hw 95 4 rfl
      have h4:y 4 = _:=hd 4 rfl
      have hn9:((64:Int) ≤ (n:Int)) = False:=eq_false (by omega)
      refine asked_val (.pointer (some ⟨gT2,oT2 + n * 3,none⟩)) (want_free rfl) (by simp [execOp,go_sem,stripO,E103,h12,E95,h4,hn64,hn9]) rfl
     ·intro ρ y W L hw hn hLi hLd hb hd; have E104:=hw 104 13 rfl; have h13:y 13 = _:=hd 13 rfl; have E101:=hw 101 10 rfl; have h10:y 10 = _:=hd 10 rfl
      obtain ⟨hm9,hs9⟩:=hb.2.1 hLi
      obtain ⟨gQ,oQ,curQ,hQ,hQB,hQk,hQs,_,hQw⟩:=hm9.ent (p:=0) (n:=n) (by omega) hn64 h64a
      cases (hQ.symm.trans hab2)
      rw [Nat.zero_mul,Nat.add_zero] at hQs hQw
      exact asked_stQ (want_free rfl) (run_stv _ _ _ rfl gT2 (oT2 + n * 3) _ (enL e) (E104.trans h13) (E101.trans h10) rfl curQ _ hQk (by rw [enL_len]; exact hQs) (by kernel_rfl) (one_toList (enC_one _))) ⟨⟨hb.1.1.grown (grownBy_setCells _ _ _ _) (fun e9=>hgxT (Option.some.inj e9).symm),hb.1.2.grown (grownBy_setCells _ _ _ _) (fun e9=>hgfT (Option.some.inj e9).symm)⟩,fun h=>(by cases h),fun _=>⟨hQw _ e (hQk.setCells _ _) (grownBy_setCells _ _ _ _),hs9.put (grownBy_setCells _ _ _ _) (.inr (by simp only [klM,hab2]; simp [oB]; right; right; right; right; right; right; right; right; rfl)) (fun x hx => .inl hx)⟩⟩ trivial
     ·intro ρ y W L hw hn hLi hLd hb hd
      refine askQ jTwo_st (fun _ _ h=>h) hb ?_
      have E99:=hw 99 8 rfl
      have h8:y 8 = _:=hd 8 rfl
      refine asked_val (.pointer (some ⟨gT2,oT2 + 192,none⟩)) (want_free rfl) (run_idx (i:=1) rfl (E99.trans h8) (hn (.const _) trivial) (by decide) Try.underlying87 ents_size) rfl
     ·intro ρ y W L hw hn hLi hLd hb hd
      refine askQ jTwo_st (fun _ _ h=>h) hb ?_
      have E105:=hw 105 15 rfl
      have h15:y 15 = _:=hd 15 rfl
      have E100:=hw 100 9 rfl
      have h9:y 9 = _:=hd 9 rfl
      have hn9:((64:Int) ≤ (n:Int)) = False:=eq_false (by omega)
      refine asked_val (.pointer (some ⟨gT2,oT2 + 192 + n * 3,none⟩)) (want_free rfl) (by simp [execOp,go_sem,stripO,E105,h15,E100,h9,hn64,hn9]) rfl
     intro y W9 hbW9 hRW9
     have hy11:y 11 = _:=hRW9 11 (by decide)
     have hy16:y 16 = _:=hRW9 16 (by decide)
     have hy14:((fixR fun _=>True)).r (y 14) W9:=hRW9 14 (by decide)
     clear hRW9
     simp only [lay,strip,stripO,List.map_cons,List.map_nil,Nat.reduceAdd,Nat.reduceLT,decide_true,decide_false,if_true,Bool.false_eq_true,if_false,List.setIfInBounds_toArray,List.set_cons_zero,List.set_cons_succ,List.drop_succ_cons,List.drop_zero,List.drop_nil,hy11,hy16]
     clear hy11 hy16
     obtain ⟨⟨bx9,fx9⟩,_,hq9⟩:=hbW9
     obtain ⟨h9,s9⟩:=hq9 rfl
     have hT9:(setL Sx.T 0 n e).length = 2:=by unfold setL; rw [List.length_set]; exact hT2
     obtain ⟨gR,oR',curR,hR,hRB,hRk,hRs,_,hRw⟩:=h9.ent (p:=1) (n:=n) (by show 1 < (setL Sx.T 0 n e).length; omega) hn64 (by
      show (lstT (setL Sx.T 0 n e) 1).length = 64
      rw [lstT_set (by omega),if_neg (by decide)]
      exact h64b)
     have hR:Sx.ab = some ⟨gR,oR',none⟩:=hR
     cases (hR.symm.trans hab2)
     rw [Nat.one_mul] at hRs hRw
     have hRw':=Lib.hid hRw
     clear hRw hq9 hx sx bx fx1
     go_wp2_with (refine wpList_stv rfl _ _ _ rfl gT2 (oT2 + 192 + n * 3) _ (enL e) rfl rfl rfl _ _ hRk (by rw [enL_len]; exact hRs) (by kernel_rfl) (one_toList (enC_one _)) ?_)
     intro w10 hb10 hg10
     have h10:=hRw'.out w10 e hb10 hg10
     have s10:MS w b S w10 { Sx with T:=setL (setL Sx.T 0 n e) 1 n e }:=s9.put hg10 (.inr (by simp only [klM,hab2]; simp [oB]; right; right; right; right; right; right; right; right; rfl)) (fun x hx => .inl hx)
     have fx10:=fx9.grown hg10 (fun e9=>hgfT (Option.some.inj e9).symm)
     clear h9 s9 bx9 fx9 hRk hb10 hg10
     go_wp2
     go_roundw
     case rel=>exact ⟨n + 1,_,by omega,by go_num,h10,s10,fx10,hkx,hF12⟩
     case measure=>simp [intOf]; omega
  ·have hni:¬ (n:Int) < 64:=by omega
   go_wp2
   refine bodyPost_ret (v:=.tuple #[]) (by simp [results,go_sem,Try.results32]) rfl ?_
   have hK:=hN.out.1
   have hM:=hmore.out
   refine ⟨Sn,rfl,hm,hs,⟨hN.out.2.1,fun p hp n g hg => ?_,hK.fi.trans hM.fi,hK.ct.trans hM.ct,hK.dk.trans hM.dk,by rw [hK.sp]; exact hM.sp,hK.fl.trans hM.fs⟩⟩
   rw [hK.sp] at hp
   rw [hK.fi]
   exact hM.fm p hp n g hg
structure Fb (ct:Nat) (bl:List Page) (q:List (Int × Page)) (fs:List Fi) (x:List Int):Prop where
 cl:bl.length = ct ∧ ct ≤ 80
 ok:∀ f ∈ fs,fileOk ct f
 nd:(posB (fs.flatMap Fi.b ++ x)).Nodup
 xb:∀ b ∈ x,-1 ≤ b ∧ b < ct
 tr:∀ b:Int,0 ≤ b → b < ct → b ∈ fs.flatMap Fi.b ++ x ∨ bl.getD b.toNat zPg = zPg
 qb:∀ p ∈ q,p.1 ∈ fs.flatMap Fi.b ++ x ∧ 0 ≤ p.1 ∧ p.1 < ct
 ql:q.length ≤ 12 * fs.length + x.length
theorem Fb.start {ct:Nat} (h:ct ≤ 80):Fb ct (List.replicate ct zPg) [] [] [] where
 cl:=⟨by simp,h⟩
 ok:=fun f hf=>by cases hf
 nd:=by simp [posB]
 xb:=fun b hb=>by cases hb
 tr:=fun b h0 h1 => .inr (by rw [List.getD_eq_getElem?_getD,List.getElem?_replicate,if_pos (by omega)]; rfl)
 qb:=fun p hp=>by cases hp
 ql:=by simp
theorem Fb.none {ct:Nat} {bl:List Page} {q:List (Int × Page)} {fs:List Fi} {x:List Int} (h:Fb ct bl q fs x):Fb ct bl q fs (x ++ [-1]) where
 cl:=h.cl
 ok:=h.ok
 nd:=by
  have e:posB (fs.flatMap Fi.b ++ (x ++ [-1])) = posB (fs.flatMap Fi.b ++ x):=by rw [← List.append_assoc,posB_app]; simp [posB]
  rw [e]; exact h.nd
 xb:=fun b hb=>by
  rcases List.mem_append.1 hb with hb | hb
  ·exact h.xb b hb
  ·rw [List.mem_singleton.1 hb]; omega
 tr:=fun b h0 h1=>(h.tr b h0 h1).imp (fun hb=>by rw [← List.append_assoc]; exact List.mem_append_left _ hb) id
 qb:=fun p hp=>⟨by rw [← List.append_assoc]; exact List.mem_append_left _ (h.qb p hp).1,(h.qb p hp).2⟩
 ql:=by have:=h.ql; simp; omega
theorem Fb.some {ct:Nat} {bl:List Page} {q:List (Int × Page)} {fs:List Fi} {x:List Int} (h:Fb ct bl q fs x) {n:Nat} (hn:n < ct) (hu:¬ (n:Int) ∈ fs.flatMap Fi.b ++ x) (P:Page):Fb ct (bl.set n P) q fs (x ++ [(n:Int)]) where
 cl:=⟨by rw [List.length_set]; exact h.cl.1,h.cl.2⟩
 ok:=h.ok
 nd:=by
  have e:posB (fs.flatMap Fi.b ++ (x ++ [(n:Int)])) = posB (fs.flatMap Fi.b ++ x) ++ [(n:Int)]:=by rw [← List.append_assoc,posB_app]; simp [posB]
  rw [e]
  refine List.nodup_append.2 ⟨h.nd,by simp,fun a ha b hb e => ?_⟩
  rw [List.mem_singleton.1 hb] at e
  subst e
  exact hu (mem_posB.1 ha).1
 xb:=fun b hb=>by
  rcases List.mem_append.1 hb with hb | hb
  ·exact h.xb b hb
  ·rw [List.mem_singleton.1 hb]; omega
 tr:=fun b h0 h1=>by
  by_cases e:b = (n:Int)
  ·subst e; exact .inl (by simp)
  ·rcases h.tr b h0 h1 with hb | hb
   ·exact .inl (by rw [← List.append_assoc]; exact List.mem_append_left _ hb)
   ·refine .inr ?_
    rw [List.getD_eq_getElem?_getD,List.getElem?_set_ne (by omega),← List.getD_eq_getElem?_getD]
    exact hb
 qb:=fun p hp=>⟨by rw [← List.append_assoc]; exact List.mem_append_left _ (h.qb p hp).1,(h.qb p hp).2⟩
 ql:=by have:=h.ql; simp; omega
theorem Fb.wait {ct:Nat} {bl:List Page} {q:List (Int × Page)} {fs:List Fi} {x:List Int} (h:Fb ct bl q fs x) {n:Nat} (hn:n < ct) (hu:¬ (n:Int) ∈ fs.flatMap Fi.b ++ x) (P:Page):Fb ct (bl.set n P) (q ++ [((n:Int),P)]) fs (x ++ [(n:Int)]):=
 have k:=h.some hn hu P
 { k with
  qb:=fun p hp=>by
   rcases List.mem_append.1 hp with hp | hp
   ·exact k.qb p hp
   ·rw [List.mem_singleton.1 hp]
    exact ⟨by simp,by show (0:Int) ≤ n; omega,by show (n:Int) < ct; omega⟩
  ql:=by have:=h.ql; simp; omega }
theorem Fb.file {ct:Nat} {bl:List Page} {q:List (Int × Page)} {fs:List Fi} {x:List Int} (h:Fb ct bl q fs x) {s:Int} (h0:0 ≤ s) (h1:s ≤ 96) (hl:(x.length:Int) = countS s):Fb ct bl q (fs ++ [⟨s,x⟩]) []:=by
 have e:(fs ++ [(⟨s,x⟩:Fi)]).flatMap Fi.b ++ [] = fs.flatMap Fi.b ++ x:=by simp
 refine ⟨h.cl,fun f hf => ?_,by rw [e]; exact h.nd,fun b hb=>(by cases hb),by rw [e]; exact h.tr,by rw [e]; exact h.qb,?_⟩
 ·rcases List.mem_append.1 hf with hf | hf
  ·exact h.ok f hf
  ·rw [List.mem_singleton.1 hf]; exact ⟨h0,h1,hl,h.xb⟩
 ·have:=h.ql
  have e2:countS s ≤ 12:=by unfold countS; split <;> omega
  have e3:(fs ++ [(⟨s,x⟩:Fi)]).length = fs.length + 1:=by simp
  rw [e3]
  simp only [List.length_nil]
  omega
def mk0 (f s ct:Nat) (bl:List Page) (q:List (Int × Page)) (fs:List Fi):Ma:=⟨⟨List.replicate f frZ,0⟩,List.replicate s 0,⟨List.replicate s zPg,[]⟩,⟨bl,q⟩,⟨fs,ct⟩,[],[]⟩
theorem Fb.bd {f s ct:Nat} {bl:List Page} {q:List (Int × Page)} {fs:List Fi} (h:Fb ct bl q fs []) (hl:fs.length ≤ 5) (hf:f ≤ 40) (hs:s ≤ 60):Bd (mk0 f s ct bl q fs) []:=by
 have hfr:∀ i,i < f → frN (mk0 f s ct bl q fs) i = frZ:=fun i hi=>by
  unfold frN mk0
  rw [List.getD_eq_getElem?_getD,List.getElem?_replicate,if_pos hi]; rfl
 have hen:∀ p n,(ent (mk0 f s ct bl q fs) p n).k = 0:=fun p n=>by
  unfold ent
  rw [spN_out (by simp [mk0])]
  show (getT zTb n).k = 0
  rw [zTb_get]; rfl
 have hw:wrongSt ⟨fs,(ct:Int)⟩ = 0:=wrongSt_iff.2 ⟨⟨hl,by show (0:Int) ≤ ct; omega,by show (ct:Int) ≤ 80; have:=h.cl.2; omega⟩,h.ok,by have:=h.nd; rw [List.append_nil] at this; exact this⟩
 have hdk:wrongD ⟨bl,q⟩ = 0:=(wrongD_iff _).2 ⟨by show bl.length ≤ 80; have:=h.cl; omega,by show q.length ≤ 400; have:=h.ql; simp only [List.length_nil] at this; omega,fun x hx=>by
  have:=(h.qb x hx).2
  have e:bl.length = ct:=h.cl.1
  show 0 ≤ x.1 ∧ x.1 < (bl.length:Int)
  omega⟩
 have hsw:wrongD ⟨List.replicate s zPg,[]⟩ = 0:=(wrongD_iff _).2 ⟨by simp; omega,by simp,fun x hx=>(by cases hx)⟩
 have hsl:wrongS (List.replicate s (0:Int)) = 0:=wrongS_of (by simp; exact hs) fun x hx=>by
  rw [(List.mem_replicate.1 hx).2]; decide
 have hm:wrongM ⟨List.replicate f frZ,0⟩ = 0:=(wrongM_iff _).2 ⟨by simp; exact hf,fun x hx=>by rw [(List.mem_replicate.1 hx).2]; decide,Int.le_refl _,.inl rfl⟩
 have hmm:fullM (mk0 f s ct bl q fs) [] = mk0 f s ct bl q fs:=rfl
 have hh:∀ kd i,holdN (mk0 f s ct bl q fs) kd i = 0:=fun _ _=>rfl
 have hc:∀ i,caN (mk0 f s ct bl q fs) i = 0:=fun _=>rfl
 refine ⟨⟨rfl,fun t ht=>(by cases ht),fun t ht=>(by cases ht)⟩,?_,?_⟩
 ·rw [hmm]
  refine ⟨⟨hm,hsl,hsw,hdk,hw,by simp [mk0],by have:=h.cl.1; show (bl.length:Int) = ct; omega,by simp [mk0],fun s hs=>(by cases hs),fun s hs=>(by cases hs)⟩,⟨fun b h0 h1 => ?_,fun p hp => ?_⟩,fun p _=>⟨by rw [spN_out (by simp [mk0])]; rfl,fun n=>hen p n⟩,⟨fun c hc=>(by cases hc),fun c hc=>(by cases hc),fun c hc=>(by cases hc),List.Pairwise.nil⟩,fun p n hk=>absurd (hen p n) hk,fun i hi => ?_,fun i hi h0 => ?_,fun i hi => ?_⟩
  ·have e:(mk0 f s ct bl q fs).dk.blocks.length = ct:=h.cl.1
   have:=h.tr b h0 (by omega)
   rw [List.append_nil] at this
   exact this
  ·have:=(h.qb p hp).1
   rw [List.append_nil] at this
   exact this
  ·rw [hfr i (by have e:(mk0 f s ct bl q fs).m.fs.length = f:=List.length_replicate; omega),hh,hc]; rfl
  ·rw [hfr i (by have e:(mk0 f s ct bl q fs).m.fs.length = f:=List.length_replicate; omega)] at h0
   exact absurd h0 (by decide)
  ·rw [hh]
   have e:(mk0 f s ct bl q fs).sl.length = s:=List.length_replicate
   unfold slN
   show (List.replicate s (0:Int)).getD i 0 = _
   rw [List.getD_eq_getElem?_getD,List.getElem?_replicate,if_pos (by omega)]; rfl
 ·rw [hmm]
  refine ⟨fun c hc=>(by cases hc),fun c hc=>(by cases hc),fun i hi hd => ?_⟩
  rw [hfr i (by have e:(mk0 f s ct bl q fs).m.fs.length = f:=List.length_replicate; omega)] at hd
  exact absurd hd (by decide)
def tabs (m:Ma) (T:List (List En)):Nat → Ma
 | 0=>m
 | q + 1=>setTb (tabs m T q) q (tabOf (lstT T q))
theorem take_set {α:Type} {F O:List α} {q:Nat} (hl:F.length = O.length) (hq:q < O.length):(F.take q ++ O.drop q).set q (F[q]'(by omega)) = F.take (q + 1) ++ O.drop (q + 1):=by
 have e1:(F.take q).length = q:=by rw [List.length_take]; omega
 rw [List.set_append,if_neg (by omega),e1,Nat.sub_self,List.drop_eq_getElem_cons hq,List.set_cons_zero,List.take_succ_eq_append_getElem (by omega),List.append_assoc]
 rfl
theorem tabs_sp {m:Ma} {T:List (List En)}:∀ q,q ≤ m.sp.length → tabs m T q = { m with sp:=(fullM m T).sp.take q ++ m.sp.drop q }
 | 0,_=>by simp [tabs]
 | q + 1,h=>by
  have ih:=tabs_sp (m:=m) (T:=T) q (by omega)
  have hF:(fullM m T).sp.length = m.sp.length:=fullM_len
  have e1:((fullM m T).sp.take q).length = q:=by rw [List.length_take]; omega
  have hsp:spN (tabs m T q) q = m.sp[q]'(by omega):=by
   rw [ih]
   unfold spN
   show ((fullM m T).sp.take q ++ m.sp.drop q).getD q zSp = _
   rw [List.getD_eq_getElem?_getD,List.getElem?_append_right (by omega),e1,Nat.sub_self,List.getElem?_drop,Nat.add_zero,List.getElem?_eq_getElem (by omega)]; rfl
  have hFq:(fullM m T).sp[q]'(by omega) = { m.sp[q]'(by omega) with tb:=tabOf (lstT T q) }:=by
   have h1:=fullM_sp (m:=m) (T:=T) (p:=q) (by omega)
   have h2:spN m q = m.sp[q]'(by omega):=by unfold spN; rw [List.getD_eq_getElem?_getD,List.getElem?_eq_getElem (by omega)]; rfl
   have h3:spN (fullM m T) q = (fullM m T).sp[q]'(by omega):=by unfold spN; rw [List.getD_eq_getElem?_getD,List.getElem?_eq_getElem (by omega)]; rfl
   rw [h2,h3] at h1
   exact h1
  show setTb (tabs m T q) q (tabOf (lstT T q)) = _
  unfold setTb
  rw [hsp,ih,← hFq]
  show ({ m with sp:=((fullM m T).sp.take q ++ m.sp.drop q).set q _ }:Ma) = _
  rw [take_set hF (by omega)]
theorem tabs_end {m:Ma} {T:List (List En)}:tabs m T m.sp.length = fullM m T:=by
 rw [tabs_sp _ (Nat.le_refl _),List.drop_length,List.append_nil,List.take_of_length_le (by rw [fullM_len]; exact Nat.le_refl _)]
 rfl
end Go.Proofs.Ytkjobhcnlppcnaa