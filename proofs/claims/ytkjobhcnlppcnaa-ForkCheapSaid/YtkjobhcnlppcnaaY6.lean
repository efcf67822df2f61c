import Derived.Test.YtkjobhcnlppcnaaY5
set_option linter.unusedSimpArgs false
set_option linter.unusedVariables false
set_option maxHeartbeats 4000000
set_option maxRecDepth 100000
namespace Go.Proofs.Ytkjobhcnlppcnaa
open Go.RowKit Pw
def flC (l:List En):Array Value:=(l.flatMap enL).toArray
theorem flC_size (l:List En):(flC l).size = l.length * 3:=by
 unfold flC; rw [List.size_toArray,entries_len]
theorem arr64_size:(Try.prog.info? 95).map (·.size) = some 192:=by kernel_rfl
theorem TbO.app {w w' : World} {B:Nat} {cs:Array Value} {t:Tb} (h:TbO w B cs t) {q:Nat} (hq:q < 8) {v v' : Value} {l:List En} (hv:cs[q]? = some v) (ho:Own w' B 67 3 v' l.length (l.flatMap enL)) (hgr:w.grownBy w' v.ownBlock)
  (hc:v'.ownBlock = v.ownBlock ∨ ∀ g,v'.ownBlock = some g → w.heap.size ≤ g):TbO w' B (cs.setIfInBounds q v') (t.set q l) where
 sz:=by simp [h.sz]
 own:=fun k hk=>by
  by_cases e:k = q
  ·subst e
   exact ⟨v',by rw [Array.getElem?_setIfInBounds_self_of_lt (by rw [h.sz]; exact hk)],by simpa using ho⟩
  ·obtain ⟨u,h1,h2⟩:=h.own k hk
   refine ⟨u,by rw [Array.getElem?_setIfInBounds_ne (fun e2=>e e2.symm)]; exact h1,?_⟩
   rw [Vector.getElem_set_ne hq hk (fun e2=>e e2.symm)]
   refine h2.grown hgr fun g hg he => ?_
   rcases Nat.lt_or_gt_of_ne e with hlt | hlt
   ·exact h.apart k q u v hlt h1 hv g hg he
   ·exact h.apart q k v u hlt hv h1 g he hg
 apart:=fun j k x y hjk hx hy g hgx hgy=>by
  have key:∀ j u,j ≠ q → cs[j]? = some u → v'.ownBlock = some g → u.ownBlock = some g → False:=by
   intro j u hjq hu hg hgu
   have hj8:j < 8:=by
    rcases Nat.lt_or_ge j 8 with hk | hk
    ·exact hk
    ·rw [Array.getElem?_eq_none (by rw [h.sz]; exact hk)] at hu; cases hu
   obtain ⟨u',h1,h2⟩:=h.own j hj8
   rw [hu] at h1
   cases h1
   rcases hc with hc | hc
   ·rw [hc] at hg
    rcases Nat.lt_or_gt_of_ne hjq with hlt | hlt
    ·exact h.apart j q u v hlt hu hv g hgu hg
    ·exact h.apart q j v u hlt hv hu g hg hgu
   ·have h3:=hc g hg
    have h4:=own_lt h2 g hgu
    omega
  by_cases e:j = q
  ·subst e
   rw [Array.getElem?_setIfInBounds_self_of_lt (by rw [h.sz]; exact hq)] at hx
   cases hx
   rw [Array.getElem?_setIfInBounds_ne (by omega)] at hy
   exact key k y (by omega) hy hgx hgy
  ·rw [Array.getElem?_setIfInBounds_ne (fun e2=>e e2.symm)] at hx
   by_cases e2:k = q
   ·subst e2
    rw [Array.getElem?_setIfInBounds_self_of_lt (by rw [h.sz]; exact hq)] at hy
    cases hy
    exact key j x e hx hgy hgx
   ·rw [Array.getElem?_setIfInBounds_ne (fun e3=>e2 e3.symm)] at hy
    exact h.apart j k x y hjk hx hy g hgx hgy
theorem flC_rd {w:World} {b:Nat} {l:List En} {T:TypeId} (h:Blk w b (flC l) T) {k:Nat} {E:En} (hE:l[k]? = some E):RdV w (some ⟨b,k * 3,none⟩) (enL E):=by
 intro i u hi
 refine ⟨b,k * 3,rfl,?_⟩
 rw [h.cell]
 have hk:k < l.length:=(List.getElem?_eq_some_iff.1 hE).1
 have hl:l[k] = E:=(List.getElem?_eq_some_iff.1 hE).2
 have:=flat_get enL 3 enL_len l k hk i u (by rw [hl]; exact hi)
 simpa [flC] using this
theorem ttable_any (l:List En) (w:World) (hl:l.length = 64):Calls Try.prog 34 #[.agg (flC l)] w fun r w' => ∃ cs,r = .returned (.agg cs) ∧ TbO w' w.heap.size cs (tabOf l) ∧ Below w.heap.size w w':=by
 have HLEN:=Lib.hid hl
 clear hl
 go_enter Try.func34,Try.ntmps34
 go_upto_region 2 with (fail)
 refine abs3 (fun W=>Code.wp _ _ _ _ W) fun W0 hb0 hx0 hres0 ho0 hs0 => ?_
 clear hs0
 have hO0:TbO W0 w.heap.size #[.slice none 0 0,.slice none 0 0,.slice none 0 0,.slice none 0 0,.slice none 0 0,.slice none 0 0,.slice none 0 0,.slice none 0 0] zTb:=zTb_O _ _
 have hT0:Hid (TaI l 0 [] zTb):=Lib.hid TaI.start
 go_wp2
 go_loopw [8] (fun i wr => ∃ (k:Nat) (ca:Array Value) (t:Tb),k ≤ 8 ∧ i = .int .i64 k ∧ Below w.heap.size w wr ∧ Blk wr w.heap.size (flC l) 95 ∧ Blk wr (w.heap.size + 1) #[.slice none 0 0,.slice none 0 0,.slice none 0 0,.slice none 0 0,.slice none 0 0,.slice none 0 0,.slice none 0 0,.slice none 0 0] 63 ∧ Blk wr (w.heap.size + 2) ca 63 ∧ TbO wr w.heap.size ca t ∧ Hid (TaI l k [] t)) (fun i _=>8 - (intOf i).toNat)
 case atStart=>exact ⟨0,_,_,Nat.zero_le _,rfl,hb0,hx0,hres0,ho0,hO0,hT0⟩
 case round=>
  obtain ⟨k,ca,t,hk,rfl,hbr,hx,hres,ho,hO,hT⟩:=hrel
  clear hb0 hx0 hres0 ho0 hO0 hT0
  by_cases hlt:k < 8
  ·have hd8:decide ((k:Int) < 8) = true:=by simp; omega
   go_wp2
   go_loopw [6,5] (fun i s wr' => ∃ (j:Nat),j ≤ 8 ∧ i = .int .i64 j ∧ s = .bool (someK l k j) ∧ wr' = wr) (fun i _ _=>8 - (intOf i).toNat)
   case atStart=>exact ⟨0,Nat.zero_le _,rfl,rfl,rfl⟩
   case round=>
    obtain ⟨j,hj,rfl,rfl,rfl⟩:=hrel
    by_cases hjl:j < 8
    ·have hd9:decide ((j:Int) < 8) = true:=by simp; omega
     obtain ⟨E,hE,hP⟩:=part_get HLEN.out hlt hjl
     have hcE:=(flC_rd hx hE) 0 (.int .i64 E.k) rfl
     obtain ⟨_,_,e1,hc0⟩:=hcE
     simp only [Option.some.injEq,Addr.mk.injEq,and_true] at e1
     obtain ⟨rfl,rfl⟩:=e1
     rw [Nat.add_zero] at hc0
     have hm1:(8:Int) * (k:Int) + (j:Int) < 64:=by omega
     have hst:Hid (someK l k (j + 1) = (someK l k j || decide (0 < E.k))):=Lib.hid (by unfold someK; rw [hP,List.any_append]; simp [posK])
     clear hE hP
     cases hs:someK l k j
     all_goals
      rw [hs] at hst
      go_wp2
      go_roundw
      case rel=>exact ⟨j + 1,by omega,by go_num,by rw [hst.out]; first | rfl | (congr 1; rw [Bool.eq_iff_iff]; simp),trivial⟩
      case measure=>simp [intOf]; omega
    ·obtain rfl:j = 8:=by omega
     rw [show ((8:Nat):Int) = 8 from rfl]
     cases hsome:someK l k 8
     ·have hhalf:=Lib.hid (half_no hsome)
      clear hsome
      go_wp2
      go_loopw [7] (fun i wr'=>i = .int .i64 0 ∧ wr' = wr) (fun _ _=>0)
      case atStart=>exact ⟨rfl,rfl⟩
      case round=>
       obtain ⟨rfl,rfl⟩:=hrel
       have hTn:Hid (TaI l (k + 1) [] t):=Lib.hid (TaI.next (by rw [hhalf.out]; exact hT.out) hlt)
       go_wp2
       go_roundw
       case rel=>exact ⟨k + 1,ca,t,by omega,by go_num,hbr,hx,hres,ho,hO,hTn⟩
       case measure=>simp [intOf]; omega
     ·have hhalf:=Lib.hid (half_yes hsome)
      clear hsome
      have hT0:Hid (TaI l k ((l.drop (8 * k)).take 0) t):=hT
      go_wp2
      go_loopw [7] (fun i wr' => ∃ (j:Nat) (ca' : Array Value) (t' : Tb),j ≤ 8 ∧ i = .int .i64 j ∧ Below w.heap.size w wr' ∧ Blk wr' w.heap.size (flC l) 95 ∧ Blk wr' (w.heap.size + 1) #[.slice none 0 0,.slice none 0 0,.slice none 0 0,.slice none 0 0,.slice none 0 0,.slice none 0 0,.slice none 0 0,.slice none 0 0] 63 ∧ Blk wr' (w.heap.size + 2) ca' 63 ∧ TbO wr' w.heap.size ca' t' ∧ Hid (TaI l k ((l.drop (8 * k)).take j) t')) (fun i _=>8 - (intOf i).toNat)
      case atStart=>exact ⟨0,ca,t,Nat.zero_le _,rfl,hbr,hx,hres,ho,hO,hT0⟩
      case round=>
       obtain ⟨j,ca',t',hj,rfl,hbr2,hx2,hres2,ho2,hO2,hT2⟩:=hrel
       clear hbr hx hres ho hO hT hT0
       by_cases hjl:j < 8
       ·have hd9:decide ((j:Int) < 8) = true:=by simp; omega
        obtain ⟨E,hE,hP⟩:=part_get HLEN.out hlt hjl
        have hrE:=flC_rd hx2 hE
        have hm1:(8:Int) * (k:Int) + (j:Int) < 64:=by omega
        have hm0:¬ (8:Int) * (k:Int) + (j:Int) < 0:=by omega
        have hk8:(k:Int) < 8:=by omega
        have hmul:IntKind.i64.wrap (8 * (k:Int)) = 8 * (k:Int):=IntWalk.i64_in _ (by omega)
        have hadd:IntKind.i64.wrap (8 * (k:Int) + (j:Int)) = 8 * (k:Int) + (j:Int):=IntWalk.i64_in _ (by omega)
        have hnn:(8 * (k:Int) + (j:Int)).toNat = 8 * k + j:=by omega
        have hP':=Lib.hid hP
        obtain ⟨v,hv,hown⟩:=hO2.own k hlt
        have hv':=Lib.hid hv
        have hpl:t'[k].length = j:=by rw [hT2.out.at' hlt]; exact part_len HLEN.out hlt (by omega)
        obtain ⟨xa,xc,rfl,hxle,hxmx,hxnil,hxrd⟩:=hown.rd
        have HE:=Lib.hid hE
        clear hE hP hv
        go_upto_region 13 with (fail)
        refine wp_growC 11 12 [(0,.int .i64 k)] [anyR,isV (.int .i64 k),isV (.pointer (some ⟨w.heap.size + 2,k,none⟩)),isV (.slice xa t'[k].length xc),isV (.int .i64 k),isV (.int .i64 (8 * (k:Int))),isV (.int .i64 j),isV (.int .i64 (8 * (k:Int) + (j:Int))),isV (.pointer (some ⟨w.heap.size,(8 * k + j) * 3,none⟩)),isV (.agg (enC E)),(slR 1 (enL E))] (by kernel_rfl) (by kernel_rfl) (by kernel_rfl) (by kernel_rfl) (by kernel_rfl) (by kernel_rfl) (by decide) (by decide) _ rfl (by kernel_rfl) (all_cons ?_ (all_cons ?_ (all_cons ?_ (all_cons ?_ (all_cons ?_ (all_cons ?_ (all_cons ?_ (all_cons ?_ (all_cons ?_ (all_cons ?_ (all_cons ?_ (all_nil)))))))))))) (all_nil) rfl ?_
        ·refine askedC_pu rfl ?_
         intro ρ y W hw hn hV
         have E4:ρ (.tmp 4) = .int .i64 k:=(hn (.tmp 4) rfl).trans rfl
         exact ⟨(want_free rfl),(run_move (.inl rfl) E4)⟩
        ·refine askedC_not rfl ?_
         intro ρ y W hw hn hb hd
         have E4:ρ (.tmp 4) = .int .i64 k:=(hn (.tmp 4) rfl).trans rfl
         refine asked_val (.int .i64 k) (want_free rfl) (run_move (.inl rfl) E4) rfl
        ·refine askedC_not rfl ?_
         intro ρ y W hw hn hb hd
         have E3:ρ (.tmp 3) = .pointer (some ⟨w.heap.size + 2,0,none⟩):=(hn (.tmp 3) rfl).trans rfl
         have E34:=hw 34 1 rfl
         have h1:y 1 = .int .i64 k:=hd 1 rfl
         refine asked_val (.pointer (some ⟨w.heap.size + 2,k,none⟩)) (want_free rfl) (by simp [execOp,go_sem,E3,E34,h1,Try.underlying63,hk8]) rfl
        ·refine askedC_not rfl ?_
         intro ρ y W hw hn hb hd
         have E35:=hw 35 2 rfl
         have h2:y 2 = .pointer (some ⟨w.heap.size + 2,k,none⟩):=hd 2 rfl
         refine asked_val (.slice xa t'[k].length xc) (want_free rfl) (by simp [execOp,go_sem,E35,h2,(((ho2.ext hb).cell k).trans hv'.out),Try.underlying61]) rfl
        ·refine askedC_not rfl ?_
         intro ρ y W hw hn hb hd
         have E4:ρ (.tmp 4) = .int .i64 k:=(hn (.tmp 4) rfl).trans rfl
         refine asked_val (.int .i64 k) (want_free rfl) (run_move (.inl rfl) E4) rfl
        ·refine askedC_not rfl ?_
         intro ρ y W hw hn hb hd
         have E37:=hw 37 4 rfl
         have h4:y 4 = .int .i64 k:=hd 4 rfl
         have EC:∀ v,ρ (.const v) = v:=fun v=>hn (.const v) trivial
         refine asked_val (.int .i64 (8 * (k:Int))) (want_free rfl) (by simp [execOp,go_sem,E37,h4,EC,hmul]) rfl
        ·refine askedC_not rfl ?_
         intro ρ y W hw hn hb hd
         have E7:ρ (.tmp 7) = .int .i64 j:=(hn (.tmp 7) rfl).trans rfl
         refine asked_val (.int .i64 j) (want_free rfl) (run_move (.inl rfl) E7) rfl
        ·refine askedC_not rfl ?_
         intro ρ y W hw hn hb hd
         have E38:=hw 38 5 rfl
         have h5:y 5 = .int .i64 (8 * (k:Int)):=hd 5 rfl
         have E39:=hw 39 6 rfl
         have h6:y 6 = .int .i64 j:=hd 6 rfl
         refine asked_val (.int .i64 (8 * (k:Int) + (j:Int))) (want_free rfl) (by simp [execOp,go_sem,E38,h5,E39,h6,hadd]) rfl
        ·refine askedC_not rfl ?_
         intro ρ y W hw hn hb hd
         have E1:ρ (.tmp 1) = .pointer (some ⟨w.heap.size,0,none⟩):=(hn (.tmp 1) rfl).trans rfl
         have E40:=hw 40 7 rfl
         have h7:y 7 = .int .i64 (8 * (k:Int) + (j:Int)):=hd 7 rfl
         refine asked_val (.pointer (some ⟨w.heap.size,(8 * k + j) * 3,none⟩)) (want_free rfl) (by simp [execOp,go_sem,E1,E40,h7,Try.underlying95,hm1,hm0,hnn]) rfl
        ·refine askedC_not rfl ?_
         intro ρ y W hw hn hb hd
         have E41:=hw 41 8 rfl
         have h8:y 8 = .pointer (some ⟨w.heap.size,(8 * k + j) * 3,none⟩):=hd 8 rfl
         refine asked_val (.agg (enC E)) (want_free rfl) (run_load_rd rfl (E41.trans h8) (vs:=enL E) (hrE.below hb) Try.underlying67 rfl entry_size) rfl
        ·refine askedC_not rfl ?_
         intro ρ y W hw hn hb hd
         have E42:=hw 42 9 rfl
         have h9:y 9 = .agg (enC E):=hd 9 rfl
         refine asked_new (.slice (some ⟨W.heap.size,0,none⟩) 1 1) (want_free rfl) (by simp [execOp,go_sem,E42,h9,enC]) ((Below.refl _ _).alloc (Nat.le_refl _) (.cells (enC E) 67)) ?_
         exact ⟨_,_,rfl,Nat.le_refl _,by unfold maxLen; omega,fun e=>(by cases e),RdV.new _ _ _⟩
        intro ρ y WA o ho hw hn hV hbWA hRWA
        cases ho
        have hy0:y 0 = .int .i64 k:=hV 0 _ rfl
        have hy1:y 1 = .int .i64 k:=hRWA 1 (by decide)
        have hy2:y 2 = .pointer (some ⟨w.heap.size + 2,k,none⟩):=hRWA 2 (by decide)
        have hy3:y 3 = .slice xa t'[k].length xc:=hRWA 3 (by decide)
        have hy4:y 4 = .int .i64 k:=hRWA 4 (by decide)
        have hy5:y 5 = .int .i64 (8 * (k:Int)):=hRWA 5 (by decide)
        have hy6:y 6 = .int .i64 j:=hRWA 6 (by decide)
        have hy7:y 7 = .int .i64 (8 * (k:Int) + (j:Int)):=hRWA 7 (by decide)
        have hy8:y 8 = .pointer (some ⟨w.heap.size,(8 * k + j) * 3,none⟩):=hRWA 8 (by decide)
        have hy9:y 9 = .agg (enC E):=hRWA 9 (by decide)
        obtain ⟨ya10,yc10,hy10,yle10,ymx10,ynil10,yrd10⟩:=hRWA 10 (by decide)
        have E36:=hw 36 3 rfl
        rw [hy3] at E36
        have E43:=hw 43 10 rfl
        rw [hy10] at E43
        have EC:∀ v,ρ (.const v) = v:=fun v=>hn (.const v) trivial
        have EF:∀ f,ρ (.func f) = .func (.func f) #[] #[]:=fun f=>hn (.func f) trivial
        refine giv_app (want_free rfl) (run_app (.tmp 36) (.tmp 43) 61 rfl w.heap.size 67 _ 3 24 Try.underlying61 entry_info rfl (by decide) _ _ _ E36 (hown.below hbWA) ya10 1 yc10 (enL E) E43 ynil10 yle10 rfl yrd10 (en_one E) (by unfold maxLen; omega) (by omega) (Nat.le_trans hbr2.size hbWA.size)) ?_
        rintro v2 w4 ⟨hown4,hgr4,hcase4⟩
        clear hRWA hw hn hV
        simp only [lay,Nat.reduceAdd,Nat.reduceLT,Nat.reduceEqDiff,reduceIte,decide_true,decide_false,if_true,Bool.false_eq_true,if_false,List.setIfInBounds_toArray,List.set_cons_zero,List.set_cons_succ,List.drop_succ_cons,List.drop_zero,List.drop_nil,hy0,hy1,hy2,hy3,hy4,hy5,hy6,hy7,hy8,hy9,hy10]
        clear hy0 hy1 hy2 hy3 hy4 hy5 hy6 hy7 hy8 hy9 hy10
        have hbelA:=below_next hbr2 hbWA
        have hownA:=hown.below hbWA
        have ho4:=blk_own (ho2.ext hbWA) hownA (by decide) hgr4
        have hx4:=blk_own (hx2.ext hbWA) hownA (by decide) hgr4
        have hres4:=blk_own (hres2.ext hbWA) hownA (by decide) hgr4
        have hbel4:=hbelA.grown hgr4 hbelA.size (fun k hk=>hownA.ge k hk)
        have hown5:Own w4 w.heap.size 67 3 v2 (t'[k] ++ [E]).length ((t'[k] ++ [E]).flatMap enL):=by
         rw [List.length_append,List.flatMap_append]
         simpa using hown4
        have hO4:=(hO2.below hbWA).app hlt hv'.out hown5 hgr4 hcase4
        have hT3:Hid (TaI l k ((l.drop (8 * k)).take (j + 1)) (t'.set k (t'[k] ++ [E]))):=Lib.hid (by
         have:=hT2.out.set (h2:=(l.drop (8 * k)).take (j + 1)) hlt
         have e:t'[k] ++ [E] = (l.drop (8 * k)).take (j + 1):=by rw [hP'.out,hT2.out.at' hlt]
         rw [e]
         exact this)
        have hsz2:=hO2.sz
        have hone2:∀ u ∈ [v2],u.oneCell' = true:=by
         obtain ⟨_,_,rfl,_⟩:=hown4.rd
         intro u hu
         cases List.mem_singleton.1 hu
         rfl
        have hcv2:(v2.cells.toList:List Value) = [v2]:=by
         obtain ⟨_,_,rfl,_⟩:=hown4.rd
         rfl
        clear hbelA hownA hown4 hown5 hcase4 hgr4 hbWA hx2 hres2 ho2 hO2 hT2 hown hrE hbr2 yrd10
        go_wp2_with (refine wpList_stv rfl _ (.tmp 45) (.tmp 44) rfl (w.heap.size + 2) k _ [v2] rfl rfl hcv2 _ _ ho4 (by rw [hsz2]; exact hlt) slent_size hone2 ?_)
        intro w5 ho5 hgr5
        rw [putAt_one] at ho5
        have hO5:=hO4.keep ho4 (by decide) hgr5
        have hx5:=blk_keep hx4 ho4 (by decide) hgr5
        have hres5:Blk w5 (w.heap.size + 1) _ _:=hres4.grown hgr5 (fun e=>by have:=Option.some.inj e; omega)
        have hbel5:=hbel4.grown hgr5 hbel4.size (fun k hk=>by cases hk; omega)
        clear ho4 hx4 hres4 hbel4 hO4 hgr5
        go_wp2
        go_roundw
        case rel=>exact ⟨j + 1,_,_,by omega,by go_num,hbel5,hx5,hres5,ho5,hO5,hT3⟩
        case measure=>simp [intOf]; omega
       ·obtain rfl:j = 8:=by omega
        have hTn:Hid (TaI l (k + 1) [] t'):=Lib.hid (TaI.next (by rw [hhalf.out]; exact hT2.out) hlt)
        go_wp2
        go_roundw
        case rel=>exact ⟨k + 1,ca',t',by omega,by go_num,hbr2,hx2,hres2,ho2,hO2,hTn⟩
        case measure=>simp [intOf]; omega
  ·obtain rfl:k = 8:=by omega
   have hfin:=hT.out.fin
   have hone:=hO.rd.one
   have hsz:=hO.sz
   rw [hfin] at hO
   clear hfin
   go_wp2_with (first | (refine wpList_ld rfl 63 (.tmp 3) rfl (w.heap.size + 2) 0 rfl ca.toList ho.rd _ Try.underlying63 tab_agg (by rw [Array.length_toList,hsz]; exact tab_size) ?_) | (refine wpList_stw rfl _ (.tmp 2) (.tmp 47) rfl (w.heap.size + 1) ca rfl rfl _ _ hres (by rw [hsz]; rfl) (by rw [hsz]; exact tab_size) hone ?_))
   intro w5 hr5 hgr5
   have hO5:=hO.keep hres (by decide) hgr5
   have hbel5:Below w.heap.size w w5:=hbr.grown hgr5 hbr.size (fun k hk=>by cases hk; omega)
   go_wp2
   refine bodyPost_ret (v:=.agg ca) (results_c Try.results34 _ _ (w.heap.size + 1) _ _ _ rfl hr5 Try.underlying63 rfl (by rw [hsz]; exact tab_size)) rfl ?_
   exact ⟨_,rfl,hO5,hbel5⟩
open Go.Maps
theorem run_mk {P:Program} (t e:TypeId) (z:Value) (size bytes:Nat) (ht:P.underlying t = some (.slice e)) (h2:(P.info? e).map (fun i=>(i.zero,i.size,i.bytes)) = some (some z,size,bytes)) (kl kc:IntKind) (n:Nat) (b2:bytes * n ≤ 281474976710656) (b3:n ≤ 9223372036854775807) (w:World) :
  (Instr.makeSlice t (.int kl (n:Int)) (.int kc (n:Int))).run P w = .ok (.slice (some ⟨w.heap.size,0,none⟩) n n) (w.alloc (.cells (madeCells z.cells (n * size)) e)):=by
 obtain ⟨i,hi,hzz,hs,hb⟩:=info_parts h2
 have hb' : (i.bytes:Int) * (n:Int) ≤ 281474976710656:=by
  have h:((i.bytes * n:Nat):Int) ≤ 281474976710656:=by rw [hb]; omega
  rwa [Int.natCast_mul] at h
 have hr:=run_make (P:=P) w t e i z ht hi hzz kl kc n n (by omega) (Int.le_refl _) hb' (by omega)
 simp only [Int.toNat_natCast,hs] at hr
 exact hr
theorem maR_own {α:Type} {w:World} {B:Nat} {e:TypeId} {sz n:Nat} (enc:α → List Value) (x:α) {z:Array Value} (hsz:∀ x,(enc x).length = sz) (hp:0 < sz) (hz:z.toList = enc x) (hn:n ≤ maxLen) {g:Nat} (hB:B ≤ g) (hk:Blk w g (madeCells z (n * sz)) e) :
  Own w B e sz (.slice (some ⟨g,0,none⟩) n n) n ((List.replicate n x).flatMap enc):=
 ⟨by rw [Pw.flat_len enc sz hsz,List.length_replicate],.inr ⟨g,0,n,_,rfl,hB,hk,Nat.le_refl _,hn,by simp [size_madeCells],fun j u hj=>by
  rw [Nat.zero_add,← Array.getElem?_toList,made_flat enc sz hsz hp z x hz n]; exact hj⟩⟩
theorem made_ne {w:World} {g g' n n' : Nat} {e e' : TypeId} {z:Array Value} (h:Blk w g (madeCells z (n * 8)) e) (h' : Blk w g' (madeCells z (n' * 8)) e') (hne:Value.slice (some ⟨g,0,none⟩) n n ≠ .slice (some ⟨g',0,none⟩) n' n'):g ≠ g':=by
 intro e0
 subst e0
 have h2:some (Obj.cells (madeCells z (n * 8)) e (0,0)) = some (Obj.cells (madeCells z (n' * 8)) e' (0,0)):=h.symm.trans h'
 have h3:madeCells z (n * 8) = madeCells z (n' * 8):=by
  injection h2 with h2
  injection h2
 have h4:=congrArg Array.size h3
 rw [size_madeCells,size_madeCells] at h4
 obtain rfl:n = n':=by omega
 exact hne rfl
structure JM (W0:World) (B f s ct:Nat) (zf zs zp:Array Value) (L:Nat → Bool) (y:Nat → Value) (W:World):Prop where
 be:Below W0.heap.size W0 W
 k2:L 2 = true → ∃ g,y 2 = .slice (some ⟨g,0,none⟩) f f ∧ B ≤ g ∧ Blk W g (madeCells zf (f * 13)) 59
 k5:L 5 = true → ∃ g,y 5 = .slice (some ⟨g,0,none⟩) s s ∧ B ≤ g ∧ Blk W g (madeCells zs (s * 1)) 3
 k7:L 7 = true → ∃ g,y 7 = .slice (some ⟨g,0,none⟩) s s ∧ B ≤ g ∧ Blk W g (madeCells zp (s * 8)) 50
 k10:L 10 = true → ∃ g,y 10 = .slice (some ⟨g,0,none⟩) ct ct ∧ B ≤ g ∧ Blk W g (madeCells zp (ct * 8)) 50
 ne:L 7 = true → L 10 = true → y 7 ≠ y 10
 k3:L 3 = true → L 2 = true ∧ y 3 = .agg #[y 2,.int .i64 0]
 k8:L 8 = true → L 7 = true ∧ y 8 = .agg #[y 7,.slice none 0 0]
 k11:L 11 = true → L 10 = true ∧ y 11 = .agg #[y 10,.slice none 0 0]
 k14:L 14 = true → (L 3 = true ∧ L 5 = true ∧ L 8 = true ∧ L 11 = true) ∧ y 14 = .agg #[y 2,.int .i64 0,y 5,y 7,.slice none 0 0,y 10,.slice none 0 0,.slice none 0 0,.int .i64 ct,.slice none 0 0,.slice none 0 0]
theorem JM_st {W0:World} {B f s ct:Nat} {zf zs zp:Array Value}:∀ L y W W',Below W.heap.size W W' → JM W0 B f s ct zf zs zp L y W → JM W0 B f s ct zf zs zp L y W':=fun _ _ _ _ hb h=>
 ⟨below_next h.be hb,fun e=>by obtain ⟨g,a,b,c⟩:=h.k2 e; exact ⟨g,a,b,c.ext hb⟩,fun e=>by obtain ⟨g,a,b,c⟩:=h.k5 e; exact ⟨g,a,b,c.ext hb⟩,fun e=>by obtain ⟨g,a,b,c⟩:=h.k7 e; exact ⟨g,a,b,c.ext hb⟩,fun e=>by obtain ⟨g,a,b,c⟩:=h.k10 e; exact ⟨g,a,b,c.ext hb⟩,h.ne,h.k3,h.k8,h.k11,h.k14⟩
theorem JM_0 {W0:World} {B f s ct:Nat} {zf zs zp:Array Value} (y:Nat → Value):JM W0 B f s ct zf zs zp (fun _=>false) y W0:=
 ⟨Below.refl _ _,fun e=>(by cases e),fun e=>(by cases e),fun e=>(by cases e),fun e=>(by cases e),fun e=>(by cases e),fun e=>(by cases e),fun e=>(by cases e),fun e=>(by cases e),fun e=>(by cases e)⟩
theorem JM_up {W0 W:World} {B f s ct:Nat} {zf zs zp:Array Value} {L:Nat → Bool} {y:Nat → Value} {i:Nat} {v:Value} (hi:i ≠ 2 ∧ i ≠ 5 ∧ i ≠ 7 ∧ i ≠ 10 ∧ i ≠ 3 ∧ i ≠ 8 ∧ i ≠ 11 ∧ i ≠ 14) (h:JM W0 B f s ct zf zs zp L y W):JM W0 B f s ct zf zs zp (updL L i) (updV y i v) W:=by
 have e:∀ k,k ≠ i → updL L i k = L k ∧ updV y i v k = y k:=fun k hk=>⟨by unfold updL; rw [if_neg hk],by unfold updV; rw [if_neg hk]⟩
 have e2:=e 2 (by omega)
 have e5:=e 5 (by omega)
 have e7:=e 7 (by omega)
 have e10:=e 10 (by omega)
 have e3:=e 3 (by omega)
 have e8:=e 8 (by omega)
 have e11:=e 11 (by omega)
 have e14:=e 14 (by omega)
 refine ⟨h.be,?_,?_,?_,?_,?_,?_,?_,?_,?_⟩
 ·rw [e2.1,e2.2]; exact h.k2
 ·rw [e5.1,e5.2]; exact h.k5
 ·rw [e7.1,e7.2]; exact h.k7
 ·rw [e10.1,e10.2]; exact h.k10
 ·rw [e7.1,e7.2,e10.1,e10.2]; exact h.ne
 ·rw [e3.1,e3.2,e2.1,e2.2]; exact h.k3
 ·rw [e8.1,e8.2,e7.1,e7.2]; exact h.k8
 ·rw [e11.1,e11.2,e10.1,e10.2]; exact h.k11
 ·rw [e14.1,e14.2,e3.1,e5.1,e8.1,e11.1,e2.2,e5.2,e7.2,e10.2]; exact h.k14
theorem no_true {L:Nat → Bool} {i:Nat} {p:Prop} (h:L i = false) (h' : L i = true):p:=by rw [h] at h'; cases h'
theorem JM_2 {W0 W:World} {B f s ct:Nat} {zf zs zp:Array Value} {L:Nat → Bool} {y:Nat → Value} (hi:L 2 = false) (hB:B ≤ W0.heap.size) (h0:JM W0 B f s ct zf zs zp L y W):JM W0 B f s ct zf zs zp (updL L 2) (updV y 2 (.slice (some ⟨W.heap.size,0,none⟩) f f)) (W.alloc (.cells (madeCells zf (f * 13)) 59)):=by
 have h:=JM_st _ _ _ _ ((Below.refl W.heap.size W).alloc (Nat.le_refl _) (.cells (madeCells zf (f * 13)) 59)) h0
 exact ⟨h.be,fun _=>⟨_,rfl,Nat.le_trans hB h0.be.size,Blk.new _ _ _⟩,h.k5,h.k7,h.k10,h.ne,fun e=>no_true hi (h.k3 e).1,h.k8,h.k11,fun e=>no_true hi (h.k3 (h.k14 e).1.1).1⟩
theorem JM_5 {W0 W:World} {B f s ct:Nat} {zf zs zp:Array Value} {L:Nat → Bool} {y:Nat → Value} (hi:L 5 = false) (hB:B ≤ W0.heap.size) (h0:JM W0 B f s ct zf zs zp L y W):JM W0 B f s ct zf zs zp (updL L 5) (updV y 5 (.slice (some ⟨W.heap.size,0,none⟩) s s)) (W.alloc (.cells (madeCells zs (s * 1)) 3)):=by
 have h:=JM_st _ _ _ _ ((Below.refl W.heap.size W).alloc (Nat.le_refl _) (.cells (madeCells zs (s * 1)) 3)) h0
 exact ⟨h.be,h.k2,fun _=>⟨_,rfl,Nat.le_trans hB h0.be.size,Blk.new _ _ _⟩,h.k7,h.k10,h.ne,h.k3,h.k8,h.k11,fun e=>no_true hi (h.k14 e).1.2.1⟩
theorem JM_7 {W0 W:World} {B f s ct:Nat} {zf zs zp:Array Value} {L:Nat → Bool} {y:Nat → Value} (hi:L 7 = false) (hB:B ≤ W0.heap.size) (h0:JM W0 B f s ct zf zs zp L y W):JM W0 B f s ct zf zs zp (updL L 7) (updV y 7 (.slice (some ⟨W.heap.size,0,none⟩) s s)) (W.alloc (.cells (madeCells zp (s * 8)) 50)):=by
 have h:=JM_st _ _ _ _ ((Below.refl W.heap.size W).alloc (Nat.le_refl _) (.cells (madeCells zp (s * 8)) 50)) h0
 refine ⟨h.be,h.k2,h.k5,fun _=>⟨_,rfl,Nat.le_trans hB h0.be.size,Blk.new _ _ _⟩,h.k10,fun _ e => ?_,h.k3,fun e=>no_true hi (h.k8 e).1,h.k11,fun e=>no_true hi (h.k8 (h.k14 e).1.2.2.1).1⟩
 obtain ⟨g,e1,_,e2⟩:=h0.k10 e
 show Value.slice _ s s ≠ y 10
 rw [e1]
 intro e3
 simp only [Value.slice.injEq,Option.some.injEq,Addr.mk.injEq] at e3
 have:=e2.lt
 omega
theorem JM_10 {W0 W:World} {B f s ct:Nat} {zf zs zp:Array Value} {L:Nat → Bool} {y:Nat → Value} (hi:L 10 = false) (hB:B ≤ W0.heap.size) (h0:JM W0 B f s ct zf zs zp L y W):JM W0 B f s ct zf zs zp (updL L 10) (updV y 10 (.slice (some ⟨W.heap.size,0,none⟩) ct ct)) (W.alloc (.cells (madeCells zp (ct * 8)) 50)):=by
 have h:=JM_st _ _ _ _ ((Below.refl W.heap.size W).alloc (Nat.le_refl _) (.cells (madeCells zp (ct * 8)) 50)) h0
 refine ⟨h.be,h.k2,h.k5,h.k7,fun _=>⟨_,rfl,Nat.le_trans hB h0.be.size,Blk.new _ _ _⟩,fun e _ => ?_,h.k3,h.k8,fun e=>no_true hi (h.k11 e).1,fun e=>no_true hi (h.k11 (h.k14 e).1.2.2.2).1⟩
 obtain ⟨g,e1,_,e2⟩:=h0.k7 e
 show y 7 ≠ Value.slice _ ct ct
 rw [e1]
 intro e3
 simp only [Value.slice.injEq,Option.some.injEq,Addr.mk.injEq] at e3
 have:=e2.lt
 omega
theorem JM_3 {W0 W:World} {B f s ct:Nat} {zf zs zp:Array Value} {L:Nat → Bool} {y:Nat → Value} (hi:L 3 = false) (hd:L 2 = true) (h:JM W0 B f s ct zf zs zp L y W):JM W0 B f s ct zf zs zp (updL L 3) (updV y 3 (.agg #[y 2,.int .i64 0])) W:=
 ⟨h.be,h.k2,h.k5,h.k7,h.k10,h.ne,fun _=>⟨hd,rfl⟩,h.k8,h.k11,fun e=>no_true hi (h.k14 e).1.1⟩
theorem JM_8 {W0 W:World} {B f s ct:Nat} {zf zs zp:Array Value} {L:Nat → Bool} {y:Nat → Value} (hi:L 8 = false) (hd:L 7 = true) (h:JM W0 B f s ct zf zs zp L y W):JM W0 B f s ct zf zs zp (updL L 8) (updV y 8 (.agg #[y 7,.slice none 0 0])) W:=
 ⟨h.be,h.k2,h.k5,h.k7,h.k10,h.ne,h.k3,fun _=>⟨hd,rfl⟩,h.k11,fun e=>no_true hi (h.k14 e).1.2.2.1⟩
theorem JM_11 {W0 W:World} {B f s ct:Nat} {zf zs zp:Array Value} {L:Nat → Bool} {y:Nat → Value} (hi:L 11 = false) (hd:L 10 = true) (h:JM W0 B f s ct zf zs zp L y W):JM W0 B f s ct zf zs zp (updL L 11) (updV y 11 (.agg #[y 10,.slice none 0 0])) W:=
 ⟨h.be,h.k2,h.k5,h.k7,h.k10,h.ne,h.k3,h.k8,fun _=>⟨hd,rfl⟩,fun e=>no_true hi (h.k14 e).1.2.2.2⟩
theorem JM_14 {W0 W:World} {B f s ct:Nat} {zf zs zp:Array Value} {L:Nat → Bool} {y:Nat → Value} (h3:L 3 = true) (h5:L 5 = true) (h8:L 8 = true) (h11:L 11 = true) (h:JM W0 B f s ct zf zs zp L y W) :
  JM W0 B f s ct zf zs zp (updL L 14) (updV y 14 (.agg #[y 2,.int .i64 0,y 5,y 7,.slice none 0 0,y 10,.slice none 0 0,.slice none 0 0,.int .i64 ct,.slice none 0 0,.slice none 0 0])) W:=
 ⟨h.be,h.k2,h.k5,h.k7,h.k10,h.ne,h.k3,h.k8,h.k11,fun _=>⟨⟨h3,h5,h8,h11⟩,rfl⟩⟩
def stH (gf gs gw gd f s ct:Nat):MH:=⟨some ⟨gf,0,none⟩,f,⟨List.replicate f fr0,0⟩,some ⟨gs,0,none⟩,s,List.replicate s 0,some ⟨gw,0,none⟩,s,none,0,⟨List.replicate s zPg,[]⟩,some ⟨gd,0,none⟩,ct,none,0,⟨List.replicate ct zPg,[]⟩,none,0,[],ct,none,0,[],none,0,[]⟩
theorem start_O {w:World} {B b gf gs gw gd f s ct:Nat} {al:Option Addr} {cl:Nat} {l:List UInt8} (hr:SlR w al cl l.length (l.map byV)) (ha:∀ a,al = some a → l.map byV ≠ [] → a.block < B) (hB:B ≤ b) (hk:Blk w b (mkC ⟨al,cl,l,stH gf gs gw gd f s ct,none,0,[]⟩) 89)
  (hf:f ≤ 40) (hs:s ≤ 60) (hc:ct ≤ 80) (b1:B ≤ gf) (b2:B ≤ gs) (b3:B ≤ gw) (b4:B ≤ gd) (hne:gw ≠ gd) {zf zs zp:Array Value} (ef:zf.toList = frL fr0) (es:zs.toList = [inV 0]) (ep:zp.toList = pgL zPg)
  (k1:Blk w gf (madeCells zf (f * 13)) 59) (k2:Blk w gs (madeCells zs (s * 1)) 3) (k3:Blk w gw (madeCells zp (s * 8)) 50) (k4:Blk w gd (madeCells zp (ct * 8)) 50):MkO w B b ⟨al,cl,l,stH gf gs gw gd f s ct,none,0,[]⟩:=by
 have m:maxLen = maxLen:=rfl
 have o1:=maR_own frL fr0 (n:=f) frL_len (by decide) ef (by unfold maxLen; omega) b1 k1
 have o2:=maR_own (fun x=>[inV x]) (0:Int) (n:=s) (fun _=>rfl) (by decide) es (by unfold maxLen; omega) b2 k2
 have o3:=maR_own pgL zPg (n:=s) pgL_len (by decide) ep (by unfold maxLen; omega) b3 k3
 have o4:=maR_own pgL zPg (n:=ct) pgL_len (by decide) ep (by unfold maxLen; omega) b4 k4
 refine ⟨hk,hB,⟨?_,?_,⟨?_,Own.nil _ _ _ _⟩,⟨?_,Own.nil _ _ _ _⟩,FsO.nil _ _,Own.nil _ _ _ _,Own.nil _ _ _ _,fun p hp=>(by cases hp),by show (-9223372036854775808:Int) ≤ (ct:Int) ∧ (ct:Int) ≤ 9223372036854775807; omega⟩,Own.nil _ _ _ _,hr,ha,?_,fun p hp=>(by cases hp),rfl⟩
 ·show Own w B _ 13 (.slice (some ⟨gf,0,none⟩) (List.replicate f fr0).length f) (List.replicate f fr0).length _
  rw [List.length_replicate]; exact o1
 ·show Own w B _ 1 (.slice (some ⟨gs,0,none⟩) (List.replicate s (0:Int)).length s) (List.replicate s (0:Int)).length ((List.replicate s (0:Int)).map inV)
  rw [List.length_replicate,← flat_one]; exact o2
 ·show Own w B _ 8 (.slice (some ⟨gw,0,none⟩) (List.replicate s zPg).length s) (List.replicate s zPg).length _
  rw [List.length_replicate]; exact o3
 ·show Own w B _ 8 (.slice (some ⟨gd,0,none⟩) (List.replicate ct zPg).length ct) (List.replicate ct zPg).length _
  rw [List.length_replicate]; exact o4
 ·intro x hx hd
  have e1:gw = x:=by simpa [stH,oB,Value.ownBlock] using hx
  have e2:gd = x:=by simpa [stH,oB,Value.ownBlock] using hd
  exact hne (e1.trans e2.symm)
def frQ (f q:Nat):List Fr:=List.replicate q frZ ++ List.replicate (f - q) fr0
theorem frQ_len {f q:Nat} (h:q ≤ f):(frQ f q).length = f:=by unfold frQ; simp; omega
theorem frQ_get {f q:Nat} (h:q < f) (hl:q < (frQ f q).length):(frQ f q)[q] = fr0:=by
 have:(frQ f q)[q]? = some fr0:=by
  unfold frQ
  rw [List.getElem?_append_right (by simp),List.length_replicate,Nat.sub_self,List.getElem?_replicate,if_pos (by omega)]
 rw [List.getElem?_eq_getElem hl] at this
 exact Option.some.inj this
theorem frQ_set {f q:Nat} (h:q < f):(frQ f q).set q frZ = frQ f (q + 1):=by
 unfold frQ
 rw [List.set_append,if_neg (by simp),List.length_replicate,Nat.sub_self]
 obtain ⟨d,hd⟩:∃ d,f - q = d + 1:=⟨f - q - 1,by omega⟩
 rw [hd,show f - (q + 1) = d by omega,List.replicate_succ,List.set_cons_zero,List.replicate_succ',List.append_assoc]
 rfl
theorem frQ_end (f:Nat):frQ f f = List.replicate f frZ:=by unfold frQ; simp
theorem frQ_put {cur:Array Value} {o:Nat} (hfit:o + 13 ≤ cur.size) (hc:∀ j u,(frL fr0)[j]? = some u → cur[o + j]? = some u):putAt cur (o + 11) [.int .i64 (-1)] = putAt cur o (frL frZ):=
 putAt_sub (xs:=frL fr0) rfl hfit hc (by decide) (fun i hi=>by
  obtain rfl:i = 0:=by simpa using hi
  rfl) (fun i hi=>by
  by_cases h13:i < 13
  ·match i,h13,hi with
   | 0,_,_=>rfl
   | 1,_,_=>rfl
   | 2,_,_=>rfl
   | 3,_,_=>rfl
   | 4,_,_=>rfl
   | 5,_,_=>rfl
   | 6,_,_=>rfl
   | 7,_,_=>rfl
   | 8,_,_=>rfl
   | 9,_,_=>rfl
   | 10,_,_=>rfl
   | 11,_,h=>exact absurd h (by simp)
   | 12,_,_=>rfl
  ·rw [List.getElem?_eq_none (by rw [frL_len]; omega),List.getElem?_eq_none (by rw [frL_len]; omega)])
structure Fil (f s ct:Nat) (as0:Option Addr) (fi0:List PF) (bl:List Page) (q:List (Int × Page)) (S:MW):Prop where
 m:S.H.m = ⟨List.replicate f frZ,0⟩
 asl:S.H.asl = as0
 sl:S.H.sl = List.replicate s 0
 sw:S.H.sw = ⟨List.replicate s zPg,[]⟩
 dk:S.H.dk = ⟨bl,q⟩
 fi:S.H.fi = fi0
 ct:S.H.ct = ct
 ca:S.H.ca = []
 sp:S.H.sp = []
 T:S.T = []
theorem Fil.ma {f s ct:Nat} {as0:Option Addr} {fi0:List PF} {bl:List Page} {q:List (Int × Page)} {S:MW} (h:Fil f s ct as0 fi0 bl q S):S.H.ma = mk0 f s ct bl q (fi0.map PF.fi):=by
 unfold MH.ma mk0 stOf
 rw [h.m,h.sl,h.sw,h.dk,h.fi,h.ct,h.ca,h.sp]; rfl
theorem Fil.lst {f s ct:Nat} {as0:Option Addr} {fi0:List PF} {bl:List Page} {q:List (Int × Page)} {S:MW} (h:Fil f s ct as0 fi0 bl q S) (a:Option Addr) (c:Nat) (l:List UInt8):Fil f s ct as0 fi0 bl q (S.lst a c l):=⟨h.m,h.asl,h.sl,h.sw,h.dk,h.fi,h.ct,h.ca,h.sp,h.T⟩
theorem MkO.kb_int {w:World} {B b:Nat} {S:MW} (h:MkO w B b S) {x:Nat} {cs:Array Value} (hk:Blk w x cs 3) (hx:oB S.H.asl ≠ some x):¬ kbM b S x:=by
 have own:∀ {e:TypeId} {sz n c:Nat} {a:Option Addr} {xs:List Value},3 ≠ e → Own w B e sz (.slice a n c) n xs → oB a = some x → False:=fun ht ho hx=>by
  obtain ⟨_,cs',h2⟩:=own_oB ho hx
  exact blk_ne hk h2 ht rfl
 intro hx'
 rcases hx' with hx' | hx'
 ·subst hx'; exact blk_ne hk h.blk (by decide) rfl
 ·simp only [klM,List.mem_cons,List.not_mem_nil,or_false] at hx'
  rcases hx' with hx' | hx' | hx' | hx' | hx' | hx' | hx' | hx' | hx'
  ·exact own (by decide) h.ma.fr hx'.symm
  ·exact hx hx'.symm
  ·exact own (by decide) h.ma.sw.b hx'.symm
  ·exact own (by decide) h.ma.dk.b hx'.symm
  ·exact own (by decide) h.ma.dk.q hx'.symm
  ·exact own (by decide) h.ma.st.own hx'.symm
  ·exact own (by decide) h.ma.ca hx'.symm
  ·exact own (by decide) h.ma.sp hx'.symm
  ·exact own (by decide) h.tt hx'.symm
theorem MkO.locI {w w' : World} {B b:Nat} {S:MW} (h:MkO w B b S) {g:Nat} {cs:Array Value} (hk:Blk w g cs 3) (hn:¬ kbM b S g) (hfi:∀ p ∈ S.H.fi,oB p.a ≠ some g) (hgB:B ≤ g) (hg:w.grownBy w' (some g)):MkO w' B b S:=by
 have hne:∀ {a:Option Addr},oB a ∈ klM S → ∀ n c g',(Value.slice a n c).ownBlock = some g' → some g ≠ some g':=fun hm n c g' he e=>by
  cases e
  rw [oB_eq] at he
  exact hn (.inr (by rw [← he]; exact hm))
 exact ⟨h.blk.grown hg (fun e=>hn (.inl (Option.some.inj e))),h.ge,⟨h.ma.fr.grown hg (hne (by simp [klM]) _ _),h.ma.sl.grown hg (hne (by simp [klM]) _ _),⟨h.ma.sw.b.grown hg (hne (by simp [klM]) _ _),h.ma.sw.q.grown hg (fun g' he=>by rw [h.n3] at he; cases he)⟩,⟨h.ma.dk.b.grown hg (hne (by simp [klM]) _ _),h.ma.dk.q.grown hg (hne (by simp [klM]) _ _)⟩,
  ⟨h.ma.st.own.grown hg (hne (by simp [klM]) _ _),fun i p hp=>(h.ma.st.each i p hp).grown hg (fun g' he e=>by
   cases e
   unfold pfV at he
   rw [oB_eq] at he
   exact hfi p (List.mem_of_getElem? hp) he),h.ma.st.apart⟩,h.ma.ca.grown hg (hne (by simp [klM]) _ _),h.ma.sp.grown hg (hne (by simp [klM]) _ _),fun p hp=>⟨own_keep (h.ma.ps p hp).1 hk (by decide) hg,(h.ma.ps p hp).2.keep hk (by decide) hg⟩,h.ma.c64⟩,
  h.tt.grown hg (hne (by simp [klM]) _ _),h.rd.keep h.ra h.bs hg hgB,h.ra,h.n1,h.n2,h.n3⟩
theorem MkO.setTb {w:World} {B b:Nat} {S:MW} (h:MkO w B b S) {p:Nat} {P:PS} (hP:S.H.sp[p]? = some P) :
  ∃ g off cur,S.H.ap = some ⟨g,off,none⟩ ∧ B ≤ g ∧ Blk w g cur 65 ∧ off + p * 10 + 2 + 8 ≤ cur.size ∧
   ∀ (w' : World) (v:Vector Value 8) (t:Tb),TbO w B (tsC v) t → Blk w' g (putAt cur (off + p * 10 + 2) (tsC v).toList) 65 → w.grownBy w' (some g) → MkO w' B b { S with H:={ S.H with sp:=S.H.sp.set p { P with ts:=v,tb:=t } } }:=by
 have hp:=(List.getElem?_eq_some_iff.1 hP).1
 have hPe:=(List.getElem?_eq_some_iff.1 hP).2
 obtain ⟨g,off,cap,cur,hv,hB,hblk,hfit,hset⟩:=own_putn psL_len (by decide) rfl h.ma.sp p hp
 simp only [Value.slice.injEq] at hv
 obtain ⟨hap,_,hcp⟩:=hv
 have hsp:=h.ma.sp
 rw [hap] at hsp
 have hcell:=own_cells hsp hblk
 have hat:∀ j u,(psL P)[j]? = some u → cur[off + p * 10 + j]? = some u:=fun j u hj=>by
  rw [Nat.add_assoc]
  exact hcell _ _ (flat_get psL 10 psL_len S.H.sp p hp j u (by rw [hPe]; exact hj))
 refine ⟨g,off,cur,hap,hB,hblk,by omega,fun w' v t ht hb hg => ?_⟩
 have e1:putAt cur (off + p * 10) (psL { P with ts:=v,tb:=t }) = putAt cur (off + p * 10 + 2) (tsC v).toList:=by
  show putAt cur (off + p * 10) (.bool P.lv :: .slice P.aa P.ar.length P.ac :: (tsC v).toList) = _
  rw [putAt_skip _ (by simpa using hat 0 _ rfl),putAt_skip _ (hat 1 _ rfl)]
 rw [← e1] at hb
 have hlen:(S.H.sp.set p { P with ts:=v,tb:=t }).length = S.H.sp.length:=List.length_set
 refine h.putP hblk hB hg hlen (by rw [hlen]; exact hset w' _ hb) fun q hq => ?_
 rcases List.mem_or_eq_of_mem_set hq with hq | rfl
 ·exact h.ma.ps q hq
 ·exact ⟨(h.ma.ps P (List.mem_of_getElem? hP)).1,ht⟩
def jOne (S:MW) (B b:Nat) (w:World) (ks:List (Nat × Array Value × TypeId)) (p q:Nat) (e:TypeId) (sz n:Nat) (v0:Value) (old xs:List Value):(Nat → Bool) → (Nat → Value) → World → Prop:=fun L y W=>
 (Blk W b (mkC S) 89 ∧ ∀ t ∈ ks,Blk W t.1 t.2.1 t.2.2) ∧ (L p = false → MkO W B b S ∧ MS w b S W S) ∧ (L q = true → L p = false → ∃ a c,y q = .slice a 1 c ∧ SlR W a c 1 xs) ∧
 (L p = true → ∃ w1,MkO w1 B b S ∧ MS w b S w1 S ∧ w1.grownBy W v0.ownBlock ∧ Own W B e sz (y p) (n + 1) (old ++ xs) ∧ SameOrNew w1 v0 (y p))
theorem jOne_st {S:MW} {B b:Nat} {w:World} {ks:List (Nat × Array Value × TypeId)} {p q:Nat} {e:TypeId} {sz n:Nat} {v0:Value} {old xs:List Value}:∀ L y W W',Below W.heap.size W W' → jOne S B b w ks p q e sz n v0 old xs L y W → jOne S B b w ks p q e sz n v0 old xs L y W':=
 fun _ _ _ _ hb ⟨h1,h2,h3,h4⟩=>⟨⟨h1.1.ext hb,fun t ht=>(h1.2 t ht).ext hb⟩,fun e=>⟨(h2 e).1.below hb,(h2 e).2.below hb⟩,fun e1 e2=>by
  obtain ⟨a,e,k1,k2⟩:=h3 e1 e2
  exact ⟨a,e,k1,k2.below hb⟩,fun e=>by
  obtain ⟨w1,k1,k2,k3,k4,k5⟩:=h4 e
  exact ⟨w1,k1,k2,grown_on k3 hb,k4.below hb,k5⟩⟩
theorem jOne_up {S:MW} {B b:Nat} {w W:World} {ks:List (Nat × Array Value × TypeId)} {p q:Nat} {e:TypeId} {sz n:Nat} {v0:Value} {old xs:List Value} {L:Nat → Bool} {y:Nat → Value} {i:Nat} {v:Value} (hi:i ≠ q ∧ i ≠ p) (h:jOne S B b w ks p q e sz n v0 old xs L y W):jOne S B b w ks p q e sz n v0 old xs (updL L i) (updV y i v) W:=by
 obtain ⟨h1,h2,h3,h4⟩:=h
 have e15:updL L i q = L q:=by unfold updL; rw [if_neg (fun e=>hi.1 e.symm)]
 have e16:updL L i p = L p:=by unfold updL; rw [if_neg (fun e=>hi.2 e.symm)]
 have y15:updV y i v q = y q:=by unfold updV; rw [if_neg (fun e=>hi.1 e.symm)]
 have y16:updV y i v p = y p:=by unfold updV; rw [if_neg (fun e=>hi.2 e.symm)]
 exact ⟨h1,by rw [e16]; exact h2,by rw [e15,e16,y15]; exact h3,by rw [e16,y16]; exact h4⟩
theorem jOne_q {S:MW} {B b:Nat} {w W W' : World} {ks:List (Nat × Array Value × TypeId)} {p q:Nat} {e:TypeId} {sz n:Nat} {v0:Value} {old xs:List Value} {L:Nat → Bool} {y:Nat → Value} {a:Option Addr} {c:Nat} (hpq:p ≠ q) (hb:Below W.heap.size W W') (h:jOne S B b w ks p q e sz n v0 old xs L y W) (hr:SlR W' a c 1 xs) :
  jOne S B b w ks p q e sz n v0 old xs (updL L q) (updV y q (.slice a 1 c)) W':=by
 obtain ⟨h1,h2,h3,h4⟩:=jOne_st _ _ _ _ hb h
 have e16:updL L q p = L p:=by unfold updL; rw [if_neg hpq]
 have y16:updV y q (.slice a 1 c) p = y p:=by unfold updV; rw [if_neg hpq]
 exact ⟨h1,by rw [e16]; exact h2,fun _ _=>⟨a,c,by unfold updV; rw [if_pos rfl],hr⟩,by rw [e16,y16]; exact h4⟩
theorem jOne_p {S:MW} {B b:Nat} {w W W' : World} {ks:List (Nat × Array Value × TypeId)} {p q:Nat} {e:TypeId} {sz n:Nat} {v0:Value} {old xs:List Value} {L:Nat → Bool} {y:Nat → Value} {v:Value} (hp:L p = false) (h:jOne S B b w ks p q e sz n v0 old xs L y W) (hg:W.grownBy W' v0.ownBlock)
  (hnb:∀ g,v0.ownBlock = some g → g ≠ b ∧ ∀ t ∈ ks,t.1 ≠ g) (ho:Own W' B e sz v (n + 1) (old ++ xs)) (hs:SameOrNew W v0 v):jOne S B b w ks p q e sz n v0 old xs (updL L p) (updV y p v) W':=by
 obtain ⟨h1,h2,h3,h4⟩:=h
 refine ⟨⟨h1.1.grown hg (fun e=>(hnb b e).1 rfl),fun t ht=>(h1.2 t ht).grown hg (fun e=>(hnb _ e).2 t ht rfl)⟩,fun e => ?_,fun _ e => ?_,fun _=>⟨W,(h2 hp).1,(h2 hp).2,hg,by unfold updV; rw [if_pos rfl]; exact ho,by unfold updV; rw [if_pos rfl]; exact hs⟩⟩ <;> · unfold updL at e; rw [if_pos rfl] at e; cases e
theorem jOne_0 {S:MW} {B b:Nat} {w:World} {ks:List (Nat × Array Value × TypeId)} {p q:Nat} {e:TypeId} {sz n:Nat} {v0:Value} {old xs:List Value} (h:MkO w B b S) (hk:∀ t ∈ ks,Blk w t.1 t.2.1 t.2.2) (y:Nat → Value):jOne S B b w ks p q e sz n v0 old xs (fun _=>false) y w:=
 ⟨⟨h.blk,hk⟩,fun _=>⟨h,MS.refl _ _ _⟩,fun e=>(by cases e),fun e=>(by cases e)⟩
def jUs (S:MW) (B b:Nat) (w:World) (gf:Nat) (F:PF):(Nat → Bool) → (Nat → Value) → World → Prop:=fun L y W=>
 (∃ a c l,MkO W B b (S.lst a c l) ∧ MS w b S W (S.lst a c l)) ∧ Blk W gf (pfC F) 71 ∧ Own W B 3 1 (pfV F) F.l.length (F.l.map inV) ∧
 (L 4 = true → L 11 = false → ∃ g,y 4 = .slice (some ⟨g,0,none⟩) 0 0 ∧ Own W w.heap.size 71 2 (.slice (some ⟨g,0,none⟩) 0 0) 0 []) ∧
 (L 11 = true → L 14 = false → Own W w.heap.size 71 2 (y 11) S.H.fi.length (S.H.fi.flatMap pfL)) ∧
 (L 13 = true → L 14 = false → Own W w.heap.size 71 2 (y 13) 1 (pfL F)) ∧
 (L 14 = true → Own W w.heap.size 71 2 (y 14) (S.H.fi.length + 1) (S.H.fi.flatMap pfL ++ pfL F)) ∧ w.heap.size ≤ W.heap.size ∧ (L 15 = true → L 14 = true ∧ y 15 = .agg #[y 14,.int .i64 0])
theorem jUs_st {S:MW} {B b:Nat} {w:World} {gf:Nat} {F:PF}:∀ L y W W',Below W.heap.size W W' → jUs S B b w gf F L y W → jUs S B b w gf F L y W':=
 fun _ _ _ _ hb ⟨⟨a,c,l,h1,h2⟩,h3,h4,h5,h6,h7,h8,h9,h10⟩=>⟨⟨a,c,l,h1.below hb,h2.below hb⟩,h3.ext hb,h4.below hb,fun e1 e2=>by
  obtain ⟨g,k1,k2⟩:=h5 e1 e2
  exact ⟨g,k1,k2.below hb⟩,fun e1 e2=>(h6 e1 e2).below hb,fun e1 e2=>(h7 e1 e2).below hb,fun e1=>(h8 e1).below hb,Nat.le_trans h9 hb.size,h10⟩
theorem jUs_0 {S:MW} {B b:Nat} {w:World} {gf:Nat} {F:PF} (h:MkO w B b S) (hk:Blk w gf (pfC F) 71) (ho:Own w B 3 1 (pfV F) F.l.length (F.l.map inV)) (y:Nat → Value):jUs S B b w gf F (fun _=>false) y w:=
 ⟨⟨S.al,S.cl,S.l,h,MS.refl _ _ _⟩,hk,ho,fun e=>(by cases e),fun e=>(by cases e),fun e=>(by cases e),fun e=>(by cases e),Nat.le_refl _,fun e=>(by cases e)⟩
theorem jUs_up {S:MW} {B b:Nat} {w W:World} {gf:Nat} {F:PF} {L:Nat → Bool} {y:Nat → Value} {i:Nat} {v:Value} (hi:i ≠ 4 ∧ i ≠ 11 ∧ i ≠ 13 ∧ i ≠ 14 ∧ i ≠ 15) (h:jUs S B b w gf F L y W):jUs S B b w gf F (updL L i) (updV y i v) W:=by
 have e:∀ k,k = 4 ∨ k = 11 ∨ k = 13 ∨ k = 14 ∨ k = 15 → updL L i k = L k ∧ updV y i v k = y k:=fun k hk=>⟨by unfold updL; rw [if_neg (by omega)],by unfold updV; rw [if_neg (by omega)]⟩
 have e4:=e 4 (by decide)
 have e11:=e 11 (by decide)
 have e13:=e 13 (by decide)
 have e14:=e 14 (by decide)
 have e15:=e 15 (by decide)
 unfold jUs
 rw [e4.1,e4.2,e11.1,e11.2,e13.1,e13.2,e14.1,e14.2,e15.1,e15.2]
 exact h
theorem jUs_4 {S:MW} {B b:Nat} {w W:World} {gf:Nat} {F:PF} {L:Nat → Bool} {y:Nat → Value} (h:jUs S B b w gf F L y W):jUs S B b w gf F (updL L 4) (updV y 4 (.slice (some ⟨W.heap.size,0,none⟩) 0 0)) (W.alloc (.cells #[] 71)):=by
 obtain ⟨h1,h3,h4,h5,h6,h7,h8,h9,h10⟩:=jUs_st _ _ _ _ ((Below.refl _ _).alloc (Nat.le_refl _) (.cells #[] 71)) h
 exact ⟨h1,h3,h4,fun _ _=>⟨_,rfl,Own.empty _ _ h.2.2.2.2.2.2.2.1⟩,h6,h7,h8,h9,h10⟩
theorem jUs_11 {S:MW} {B b:Nat} {w W W' : World} {gf:Nat} {F:PF} {L:Nat → Bool} {y:Nat → Value} {v:Value} (h:jUs S B b w gf F L y W) (hb:Below W.heap.size W W') (ho:Own W' w.heap.size 71 2 v S.H.fi.length (S.H.fi.flatMap pfL)):jUs S B b w gf F (updL L 11) (updV y 11 v) W':=by
 obtain ⟨h1,h3,h4,h5,h6,h7,h8,h9,h10⟩:=jUs_st _ _ _ _ hb h
 exact ⟨h1,h3,h4,fun _ e=>(by cases e),fun _ _=>ho,h7,h8,h9,h10⟩
theorem jUs_13 {S:MW} {B b:Nat} {w W W' : World} {gf:Nat} {F:PF} {L:Nat → Bool} {y:Nat → Value} {v:Value} (h:jUs S B b w gf F L y W) (hb:Below W.heap.size W W') (ho:Own W' w.heap.size 71 2 v 1 (pfL F)):jUs S B b w gf F (updL L 13) (updV y 13 v) W':=by
 obtain ⟨h1,h3,h4,h5,h6,h7,h8,h9,h10⟩:=jUs_st _ _ _ _ hb h
 exact ⟨h1,h3,h4,h5,h6,fun _ _=>ho,h8,h9,h10⟩
theorem lst_new {w W:World} {B b:Nat} {S:MW} (h:MkO w B b S) {a:Option Addr} {c:Nat} {l:List UInt8} {x:Nat} (hx:w.heap.size ≤ x):¬ kbM b (S.lst a c l) x:=fun hk=>h.new hx hk
theorem jUs_14 {S:MW} {B b:Nat} {w W W' : World} {gf:Nat} {F:PF} {L:Nat → Bool} {y:Nat → Value} {v:Value} (h0:MkO w B b S) (hgf:gf < w.heap.size) (h:jUs S B b w gf F L y W) (h11:L 11 = true) (h14:L 14 = false) (hg:W.grownBy W' (y 11).ownBlock) (ho:Own W' w.heap.size 71 2 v (S.H.fi.length + 1) (S.H.fi.flatMap pfL ++ pfL F)) :
  jUs S B b w gf F (updL L 14) (updV y 14 v) W':=by
 obtain ⟨⟨a,c,l,h1,h2⟩,h3,h4,h5,h6,h7,h8,h9,h10⟩:=h
 have o11:=h6 h11 h14
 have hst:∀ k,(y 11).ownBlock = some k → w.heap.size ≤ k:=fun k hk=>o11.ge k hk
 refine ⟨⟨a,c,l,?_,?_⟩,h3.grown hg (fun e=>by have:=hst _ e; omega),?_,fun _ e=>(by rw [show updL L 14 11 = L 11 from rfl,h11] at e; cases e),fun _ e=>(by cases e),fun _ e=>(by cases e),fun _=>ho,Nat.le_trans h9 hg.size,fun e=>no_true h14 (h10 e).1⟩
 ·cases hk:(y 11).ownBlock with
  | none=>rw [hk] at hg; exact h1.below (grown_below hg)
  | some g=>
   rw [hk] at hg
   obtain ⟨cs,hkb⟩:=own_blk o11 g hk
   exact h1.locT hkb (by decide) (lst_new (W:=w) h0 (hst g hk)) (Nat.le_trans h0.bs (hst g hk)) hg
 ·cases hk:(y 11).ownBlock with
  | none=>rw [hk] at hg; exact h2.below (grown_below hg)
  | some g=>rw [hk] at hg; exact h2.loc hg (hst g hk)
 ·cases hk:(y 11).ownBlock with
  | none=>rw [hk] at hg; exact h4.below (grown_below hg)
  | some g=>
   rw [hk] at hg
   obtain ⟨cs,hkb⟩:=own_blk o11 g hk
   exact own_keep h4 hkb (by decide) hg
theorem jUs_pick {S:MW} {B b:Nat} {w W:World} {gf:Nat} {F:PF} {L:Nat → Bool} {y:Nat → Value} {i:Nat} (hi:i ≠ 4 ∧ i ≠ 11 ∧ i ≠ 13 ∧ i ≠ 14 ∧ i ≠ 15) (h0:MkO w B b S) (hgf:¬ kbM b S gf) (hxa:∀ x,(pfV F).ownBlock = some x → ¬ kbM b S x) (n:Int) (hn : -9223372036854775808 ≤ n ∧ n ≤ 9223372036854775807) (h:jUs S B b w gf F L y W) {R:Value → World → Prop} (hR:∀ x:Int,0 ≤ x → x < 256 → ∀ W',R (.int .i64 x) W') :
  Calls Try.prog 28 #[.pointer (some ⟨b,0,none⟩),.int .i64 n] W fun e W' => ∃ v,e = .returned v ∧ jUs S B b w gf F (updL L i) (updV y i v) W' ∧ R v W':=by
 obtain ⟨⟨a,c,l,h1,h2⟩,h3,h4,h5,h6,h7,h8,h9,h10⟩:=h
 refine (rpick_any _ n B b W h1 hn).mono ?_
 rintro r W' ⟨x,a',c',l',rfl,k1,k2,k3,_⟩
 have hfr:∀ {e:TypeId} {sz n:Nat} {v:Value} {xs:List Value},Own W w.heap.size e sz v n xs → Own W' w.heap.size e sz v n xs:=fun ho=>k2.ownN ho fun x hx=>lst_new (W:=w) h0 (ho.ge x hx)
 refine ⟨_,rfl,jUs_up hi ⟨⟨a',c',l',k1,h2.trans k2⟩,k2.blkN h3 hgf,k2.ownN h4 hxa,fun e1 e2 => ?_,fun e1 e2=>hfr (h6 e1 e2),fun e1 e2=>hfr (h7 e1 e2),fun e1=>hfr (h8 e1),Nat.le_trans h9 k2.size,h10⟩,hR x k3.1 k3.2.1 W'⟩
 obtain ⟨g,e3,e4⟩:=h5 e1 e2
 exact ⟨g,e3,hfr e4⟩
theorem jUs_15 {S:MW} {B b:Nat} {w W:World} {gf:Nat} {F:PF} {L:Nat → Bool} {y:Nat → Value} (hd:L 14 = true) (h:jUs S B b w gf F L y W):jUs S B b w gf F (updL L 15) (updV y 15 (.agg #[y 14,.int .i64 0])) W:=by
 obtain ⟨h1,h3,h4,h5,h6,h7,h8,h9,h10⟩:=h
 exact ⟨h1,h3,h4,h5,h6,h7,h8,h9,fun _=>⟨hd,rfl⟩⟩
theorem own_box {w:World} {B:Nat} (hB:B ≤ w.heap.size) (F:PF):Own (w.alloc (.cells (pfC F) 71)) B 71 2 (.slice (some ⟨w.heap.size,0,none⟩) 1 1) 1 (pfL F):=
 ⟨rfl,.inr ⟨w.heap.size,0,1,_,rfl,hB,Blk.new _ _ _,Nat.le_refl _,by unfold maxLen; omega,Nat.le_refl _,fun j u hj=>by rw [Nat.zero_add,← Array.getElem?_toList]; exact hj⟩⟩
theorem used_rd {S:MW} {B b:Nat} {w W:World} {gf:Nat} {F:PF} {L:Nat → Bool} {y:Nat → Value} (h:jUs S B b w gf F L y W) (h14:L 14 = true):∃ a c,y 14 = .slice a (S.H.fi ++ [F]).length c ∧ FsR W a c (S.H.fi ++ [F]):=by
 obtain ⟨⟨a,c,l,h1,h2⟩,h3,h4,h5,h6,h7,h8,h9,h10⟩:=h
 obtain ⟨a',c',e,k1,k2,k3,k4⟩:=(h8 h14).rd
 have hl:(S.H.fi ++ [F]).length = S.H.fi.length + 1:=by simp
 refine ⟨a',c',by rw [hl]; exact e,by rw [hl]; exact k1,k2,k3,by rw [List.flatMap_append]; simpa using k4,fun p hp => ?_⟩
 rcases List.mem_append.1 hp with hp | hp
 ·exact h1.ma.rd.st.good p hp
 ·rw [List.mem_singleton.1 hp]
  obtain ⟨a9,c9,e9,q1,q2,q3,q4⟩:=h4.rd
  unfold pfV at e9
  injection e9 with e9 e10 e11
  subst e9; subst e11
  exact ⟨q1,q2,q3,q4⟩
theorem tL_fl {t:List En} (h:t.length = 64):tL t = t.flatMap enL:=by
 have e:(List.range 64).map (fun i=>t.getD i zEn) = t:=by
  apply List.ext_getElem?
  intro i
  rw [List.getElem?_map]
  by_cases hi:i < 64
  ·rw [List.getElem?_range hi,List.getElem?_eq_getElem (by omega)]
   show some (t.getD i zEn) = _
   rw [List.getD_eq_getElem?_getD,List.getElem?_eq_getElem (by omega)]; rfl
  ·rw [List.getElem?_eq_none (by rw [List.length_range]; omega),List.getElem?_eq_none (by omega)]; rfl
 unfold tL
 rw [← List.flatMap_map (f:=fun i=>t.getD i zEn) (g:=enL),e]
theorem full_new {f s ct:Nat} (hf:f ≤ 40) (hs:s ≤ 60) (hc:ct ≤ 80):fullM { mk0 f s ct (List.replicate ct zPg) [] [] with sp:=[⟨true,[],zTb⟩] } [List.replicate 64 zEn] = newMa f s ct:=by
 have e1:newMa f s ct = ⟨newM f,newS s,newD s,newD ct,⟨[],ct⟩,[],[⟨true,[],zTb⟩]⟩:=if_pos ⟨⟨by omega,by omega⟩,⟨by omega,by omega⟩,by omega,by omega⟩
 have hz:tabOf (List.replicate 64 zEn) = zTb:=by decide +kernel
 rw [e1]
 unfold newM newS newD fullM mk0
 rw [if_pos (by omega),if_pos (by omega),if_pos (by omega),if_pos (by omega)]
 simp only [Int.toNat_natCast,List.length_cons,List.length_nil]
 have e2:tabOf (lstT [List.replicate 64 zEn] 0) = zTb:=hz
 show (⟨⟨List.replicate f frZ,0⟩,List.replicate s 0,⟨List.replicate s zPg,[]⟩,⟨List.replicate ct zPg,[]⟩,⟨[],ct⟩,[],[⟨true,[],tabOf (lstT [List.replicate 64 zEn] 0)⟩]⟩:Ma) = _
 rw [e2]
theorem below_two {w0 w1 w2:World} {B B' : Nat} (h:Below B w0 w1) (h' : Below B' w1 w2) (hB:B ≤ B') (hw:B ≤ w0.heap.size):Below B w0 w2:=
 ⟨h'.os.trans h.os,h'.tape.trans h.tape,h'.output.trans h.output,Nat.le_trans h.size h'.size,fun x hx=>(h'.block x (Nat.lt_of_lt_of_le hx hB)).trans (h.block x hx)⟩
theorem rt_maz {m:Ma} (h:Rt m):MaZ m:=by
 have h1:=h.pt
 have hw:=(wrongD_iff _).1 h1.sw
 have hd:=(wrongD_iff _).1 h1.dk
 have hst:=(wrongSt_few h1.st).1
 refine ⟨by have:=((wrongM_iff _).1 h1.fr).1; omega,by have:=wrongS_len h1.sl; omega,by omega,by omega,by omega,by omega,⟨by omega,fun f hf=>by have:=files_few h1.st f hf; omega⟩,by have:=ca_few h.ca h1.st; omega,by have:=h1.spl; omega,fun s hs=>⟨?_,fun k hk => ?_⟩⟩
 ·have:=(wrongA_iff.1 (h1.ar s hs)).1; omega
 ·have:=halfE_len (wrongT_half (h1.tb s hs) k hk); omega
theorem drop_sp (k:Kp) (p:Nat) (n:Int):(dropK k p n).m.sp.length = k.m.sp.length:=by
 unfold dropK
 dsimp only
 split
 ·rw [(enter_sp _ _ _ _).1,fhold_sp]
 ·split
  ·rw [(enter_sp _ _ _ _).1]
   unfold sholdK
   split <;> rfl
  ·rfl
theorem clears_take (k:Kp) (p:Nat) (a n:Int) (l:List Int) (j:Nat) (hj:j < l.length):clearsK k p a n (l.take (j + 1)) = if inN a n l[j] = true then dropK (clearsK k p a n (l.take j)) p l[j] else clearsK k p a n (l.take j):=by
 unfold clearsK
 rw [List.take_add_one,List.foldl_append,List.getElem?_eq_getElem hj]
 rfl
theorem kclear_any (H:MH) (e a n:Int) (p:Nat) (B b:Nat) (w:World) (h:KpO w B b H e) (hp:p < H.sp.length) (ha:0 ≤ a ∧ a ≤ 64) :
  Calls Try.prog 74 #[.pointer (some ⟨b,0,none⟩),.int .i64 p,.int .i64 a,.int .i64 n] w fun r w'=>r = .returned (.tuple #[]) ∧ KR w B b H w' (clearK ⟨H.ma,e⟩ p a n):=by
 obtain ⟨P,hP⟩:∃ P,H.sp[p]? = some P:=⟨_,List.getElem?_eq_getElem hp⟩
 have hsp:Hid (clearK ⟨H.ma,e⟩ p a n = clearsK ⟨H.ma,e⟩ p a n (pagesL P.tb)):=Lib.hid (by unfold clearK; rw [spN_H hP]; rfl)
 obtain ⟨g,off,hap,hrd,hrt,hgood⟩:=h.at hP
 have hc:=h.blk.cell
 unfold kpC at hc
 rw [hap] at hc
 have hpi:(p:Int) < (H.sp.length:Int):=by omega
 go_enter Try.func74,Try.ntmps74
 go_wp2_with (refine wpList_ldg _ _ rfl g (off + p * 10 + 2) rfl rfl _ hrt _ Try.underlying63 tab_agg tab_size ?_)
 refine (tpages_any P.tb (tsC P.ts) _ hgood.tb).mono ?_
 rintro r w1 ⟨v1,rfl,ho1,hb1⟩
 obtain ⟨a2,c2,rfl,hle2,hmx2,hnl2,_⟩:=ho1.rd
 have hin:=Lib.hid (pages_in P.tb)
 generalize pagesL P.tb = l at *
 have h1:=h.below hb1
 have s1:=(KS.refl w b H).below hb1
 clear hc hrd hrt hgood hap h hP hpi hnl2 hb1
 unfold maxLen at hmx2
 go_wp2
 go_loopw [21] (fun s21 wr => ∃ (j:Nat) (Hj:MH) (ej:Int),j ≤ l.length ∧ s21 = .int .i64 j ∧ KpO wr B b Hj ej ∧ KS w b H wr Hj ∧ Hid (Kp.mk Hj.ma ej = clearsK ⟨H.ma,e⟩ p a n (l.take j)) ∧ Own wr w.heap.size 3 1 (.slice a2 l.length c2) l.length (l.map inV) ∧ Hj.sp.length = H.sp.length) (fun s21 _=>l.length - (intOf s21).toNat)
 case atStart=>exact ⟨0,H,e,Nat.zero_le _,rfl,h1,s1,Lib.hid rfl,ho1,rfl⟩
 case round=>
  clear ho1 h1 s1
  obtain ⟨j,Hj,ej,hj,rfl,hj3,sj3,qj,hoj,hlj⟩:=hrel
  by_cases hjl:j < l.length
  ·have hji:(j:Int) < (l.length:Int):=by omega
   obtain ⟨_,_,e9,_,_,_,hrL⟩:=hoj.rd
   cases e9
   have hcj:=hrL j (inV l[j]) (by rw [List.getElem?_map,List.getElem?_eq_getElem hjl]; rfl)
   obtain ⟨bl,ol,rfl,hcj⟩:=hcj
   unfold inV at hcj
   have hi:=hin.out _ (List.getElem_mem hjl)
   have hstep:=Lib.hid (clears_take ⟨H.ma,e⟩ p a n l j hjl)
   generalize l[j] = i at *
   have hpj:p < Hj.sp.length:=by rw [hlj]; exact hp
   by_cases h1:a ≤ i
   ·by_cases h2:i - a < n
    ·have hq:Hid (clearsK ⟨H.ma,e⟩ p a n (l.take (j + 1)) = dropK (clearsK ⟨H.ma,e⟩ p a n (l.take j)) p i):=Lib.hid (by rw [hstep.out]; exact if_pos (by unfold inN; simp [h1,h2]))
     go_wp2_with fail
     refine (kdrop_any Hj ej i p B b _ hj3 hpj).mono ?_
     rintro r w6 ⟨rfl,H6,e6,h6,s6,q6⟩
     have ho6:=s6.own hj3 hoj (by decide)
     have s06:=sj3.trans s6
     have hl6:H6.sp.length = H.sp.length:=by
      have e1:=congrArg (fun k=>k.m.sp.length) q6
      rw [spH_len (e1.trans (drop_sp ⟨Hj.ma,ej⟩ p i)),hlj]
     have hq6:Hid (Kp.mk H6.ma e6 = clearsK ⟨H.ma,e⟩ p a n (l.take (j + 1))):=Lib.hid (by rw [hq.out,← qj.out]; exact q6)
     clear q6 s6 hj3 sj3 hoj qj hq hrL hcj
     go_wp2
     go_roundw
     case rel=>exact ⟨j + 1,H6,e6,by omega,by go_num,h6,s06,hq6,ho6,hl6⟩
     case measure=>simp [intOf]; omega
    ·have hq6:Hid (Kp.mk Hj.ma ej = clearsK ⟨H.ma,e⟩ p a n (l.take (j + 1))):=Lib.hid (by rw [hstep.out,if_neg (by unfold inN; simp [h2])]; exact qj.out)
     clear qj hrL
     go_wp2
     go_roundw
     case rel=>exact ⟨j + 1,Hj,ej,by omega,by go_num,hj3,sj3,hq6,hoj,hlj⟩
     case measure=>simp [intOf]; omega
   ·have hq6:Hid (Kp.mk Hj.ma ej = clearsK ⟨H.ma,e⟩ p a n (l.take (j + 1))):=Lib.hid (by rw [hstep.out,if_neg (by unfold inN; simp [h1])]; exact qj.out)
    clear qj hrL
    go_wp2
    go_roundw
    case rel=>exact ⟨j + 1,Hj,ej,by omega,by go_num,hj3,sj3,hq6,hoj,hlj⟩
    case measure=>simp [intOf]; omega
  ·have hji:¬ (j:Int) < (l.length:Int):=by omega
   rw [List.take_of_length_le (by omega)] at qj
   clear hoj
   go_wp2
   simp [bodyPost,results,go_sem,Try.results74]
   exact ⟨_,_,hj3,sj3,qj.out.trans hsp.out.symm⟩
theorem clears_sp (k:Kp) (p:Nat) (a n:Int) (l:List Int):(clearsK k p a n l).m.sp.length = k.m.sp.length:=by
 unfold clearsK
 induction l generalizing k with
 | nil=>rfl
 | cons i l ih=>
  rw [List.foldl_cons,ih]
  split
  ·exact drop_sp _ _ _
  ·rfl
def zPS:PS:=⟨false,none,0,[],nTs,zTb⟩
theorem KpO.putP {w:World} {B b:Nat} {H:MH} {e:Int} (h:KpO w B b H e) {p:Nat} (hp:p < H.sp.length) :
  ∃ g off cur,H.ap = some ⟨g,off,none⟩ ∧ B ≤ g ∧ Blk w g cur 65 ∧ off + p * 10 + 10 ≤ cur.size ∧
   ∀ (w' : World) (P:PS),Own w B 69 7 (.slice P.aa P.ar.length P.ac) P.ar.length (P.ar.flatMap arL) → TbO w B (tsC P.ts) P.tb → TbSz P.tb → Blk w' g (putAt cur (off + p * 10) (psL P)) 65 → w.grownBy w' (some g) → KpO w' B b { H with sp:=H.sp.set p P } e:=by
 obtain ⟨g,off,cap,cur,hv,hB,hblk,hfit,hset⟩:=own_putn psL_len (by decide) rfl h.ma.sp p hp
 simp only [Value.slice.injEq] at hv
 obtain ⟨hap,_,hcp⟩:=hv
 refine ⟨g,off,cur,hap,hB,hblk,by omega,fun w' P ha ht htz hb hg => ?_⟩
 have hlen:(H.sp.set p P).length = H.sp.length:=List.length_set
 have hbk:b ≠ g:=fun e=>by
  have h1:=h.blk
  subst e
  unfold Blk at h1 hblk
  rw [h1] at hblk
  simp only [Option.some.injEq,Obj.cells.injEq] at hblk
  exact absurd hblk.2.1 (by decide)
 refine ⟨?_,h.ge,⟨own_keep h.ma.fr hblk (by decide) hg,own_keep h.ma.sl hblk (by decide) hg,h.ma.sw.keep hblk (by decide) (by decide) hg,h.ma.dk.keep hblk (by decide) (by decide) hg,h.ma.st.keep hblk (by decide) (by decide) hg,own_keep h.ma.ca hblk (by decide) hg,?_,fun q hq => ?_,h.ma.c64⟩,fun q hq => ?_⟩
 ·have:kpC { H with sp:=H.sp.set p P } e = kpC H e:=by unfold kpC; simp only [hlen]
  rw [this]
  exact h.blk.grown hg (fun e=>hbk (Option.some.inj e).symm)
 ·simp only [hlen]
  exact hset w' _ hb
 ·rcases List.mem_or_eq_of_mem_set hq with hq | rfl
  ·exact ⟨own_keep (h.ma.ps q hq).1 hblk (by decide) hg,(h.ma.ps q hq).2.keep hblk (by decide) hg⟩
  ·exact ⟨own_keep ha hblk (by decide) hg,ht.keep hblk (by decide) hg⟩
 ·rcases List.mem_or_eq_of_mem_set hq with hq | rfl
  ·exact h.tz q hq
  ·exact htz
theorem setSp_H (H:MH) (p:Nat) (P:PS):MH.ma { H with sp:=H.sp.set p P } = setSp H.ma p P.sp:=by
 unfold setSp MH.ma
 simp only [List.map_set]
theorem below_tr {B:Nat} {w w1 w2:World} (h:Below B w w1) (k:Below B w1 w2):Below B w w2:=
 ⟨k.os.trans h.os,k.tape.trans h.tape,k.output.trans h.output,Nat.le_trans h.size k.size,fun i hi=>(k.block i hi).trans (h.block i hi)⟩
theorem machT:40 ≠ 143 ∧ 40 ≠ 59 ∧ 40 ≠ 85 ∧ 40 ≠ 65:=by decide
def badP (H:MH) (p:Int):Prop:=p < 0 ∨ (H.sp.length:Int) ≤ p ∨ (spN H.ma p.toNat).lv = false
def ExitR (H:MH) (p:Int) (w:World) (r:Ending) (w' : World):Prop:=
 Below w.heap.size w w' ∧ ((badP H p ∧ r = .returned (.tuple #[.agg (mhC noH),.int .i64 5])) ∨ (¬ badP H p ∧ ∃ H' : MH,r = .returned (.tuple #[.agg (mhC H'),.int .i64 0]) ∧ MaO w' w.heap.size H' ∧ Gone H.ma H'.ma p.toNat))
theorem exit_any (H:MH) (p:Int) (w:World) (h:MaR w H) (hR:Rt H.ma) (hC:Co H.ma) :
  Calls Try.prog 24 #[.agg (mhC H),.int .i64 p] w (ExitR H p w):=by
 have hR':=Lib.hid hR
 have hC':=Lib.hid hC
 clear hR hC
 go_enter Try.func24,Try.ntmps24
 go_upto_region 1 with (fail)
 refine abs2 (fun W=>Code.wp _ _ _ _ W) fun w1 hb1 bx1 rx1 hs1 => ?_
 have rx1:Blk w1 (w.heap.size + 1) (mhC noH) 40:=rx1
 have h1:=h.below hb1
 clear h
 go_wp2_with (refine wpList_ldg _ _ rfl w.heap.size 0 rfl rfl _ bx1.rd _ Try.underlying40 rfl machine_size ?_)
 refine (machine_wrong H _ h1).mono ?_
 rintro r w2 ⟨rfl,hb2⟩
 rw [rt_iff.2 hR'.out]
 have h2:=h1.below hb2
 have bx2:=bx1.ext hb2
 have rx2:=rx1.ext hb2
 have hbr2:=below_next hb1 hb2
 clear h1 bx1 rx1 hb1 hb2 hs1
 have hc:=bx2.cell
 unfold mhC at hc
 by_cases c1:p < 0
 ·have hbad:Hid (badP H p):=Lib.hid (.inl c1)
  go_wp2_with (refine wpList_stw rfl _ _ _ rfl (w.heap.size + 1) (mhC noH) rfl rfl _ _ rx2 rfl mach_size (mhC_one noH) ?_)
  intro we hre hge
  have hbre:=hbr2.grown hge hbr2.size (fun k hk=>by cases hk; omega)
  go_wp2
  refine bodyPost_ret (v:=.tuple #[.agg (mhC noH),.int .i64 5]) (results_ct Try.results24 _ _ (w.heap.size + 1) _ _ _ _ rfl rfl hre Try.underlying40 rfl mach_size) rfl ?_
  exact ⟨hbre,.inl ⟨hbad.out,rfl⟩⟩
 by_cases c2:(H.sp.length:Int) ≤ p
 ·have hbad:Hid (badP H p):=Lib.hid (.inr (.inl c2))
  go_wp2_with (refine wpList_stw rfl _ _ _ rfl (w.heap.size + 1) (mhC noH) rfl rfl _ _ rx2 rfl mach_size (mhC_one noH) ?_)
  intro we hre hge
  have hbre:=hbr2.grown hge hbr2.size (fun k hk=>by cases hk; omega)
  go_wp2
  refine bodyPost_ret (v:=.tuple #[.agg (mhC noH),.int .i64 5]) (results_ct Try.results24 _ _ (w.heap.size + 1) _ _ _ _ rfl rfl hre Try.underlying40 rfl mach_size) rfl ?_
  exact ⟨hbre,.inl ⟨hbad.out,rfl⟩⟩
 obtain ⟨P,hP⟩:∃ P:Nat,p = P:=⟨p.toNat,by omega⟩
 subst hP
 have hpl:P < H.sp.length:=by omega
 obtain ⟨gs,os,Q,haq,hQ,hrd⟩:=ps_at h2.sp.rd P hpl
 rw [haq] at hc
 have hlv:w2.cell? ⟨gs,os + P * 10,none⟩ = some (.bool Q.lv):=by
  obtain ⟨b',o',e',hc'⟩:=hrd 0 _ rfl
  cases e'
  exact hc'
 have hsp:=Lib.hid (spN_H hQ)
 cases hlvQ:Q.lv with
 | false=>
  rw [hlvQ] at hlv
  have hbad:Hid (badP H (P:Int)):=Lib.hid (.inr (.inr (by rw [Int.toNat_natCast,hsp.out]; exact hlvQ)))
  go_wp2_with (refine wpList_stw rfl _ _ _ rfl (w.heap.size + 1) (mhC noH) rfl rfl _ _ rx2 rfl mach_size (mhC_one noH) ?_)
  intro we hre hge
  have hbre:=hbr2.grown hge hbr2.size (fun k hk=>by cases hk; omega)
  go_wp2
  refine bodyPost_ret (v:=.tuple #[.agg (mhC noH),.int .i64 5]) (results_ct Try.results24 _ _ (w.heap.size + 1) _ _ _ _ rfl rfl hre Try.underlying40 rfl mach_size) rfl ?_
  exact ⟨hbre,.inl ⟨hbad.out,rfl⟩⟩
 | true=>
  rw [hlvQ] at hlv
  have hnb:Hid (¬ badP H (P:Int)):=Lib.hid (by
   rintro (e | e | e)
   ·exact c1 e
   ·exact c2 e
   ·rw [Int.toNat_natCast,hsp.out] at e; exact absurd (hlvQ.symm.trans e) (by decide))
  go_wp2_with (refine wpList_ldg _ _ rfl w.heap.size 0 rfl rfl _ bx2.rd _ Try.underlying40 rfl machine_size ?_)
  refine (machine_own2 H _ h2 (rt_maz hR'.out)).mono ?_
  rintro r w3 ⟨H3,rfl,ho3,hma3,_,hb3⟩
  have hl3:Hid (H3.sp.length = H.sp.length):=Lib.hid (spH_len (by rw [hma3]))
  have hma:=Lib.hid hma3
  have rx3:=rx2.ext hb3
  have hbr3:=below_next hbr2 hb3
  clear bx2 rx2 hc hlv hrd h2 haq hma3
  unfold mhC
  go_upto_region 7 with (fail)
  refine abs1 (fun W=>Code.wp _ _ _ _ W) fun w4 hb4 kx4 hs4 => ?_
  have k4:KpO w4 w.heap.size w3.heap.size H3 0:=⟨kx4,hbr3.size,(ho3.mono hbr2.size).below hb4,fun q hq=>(MaZ.spz (H:=H3) (by rw [hma.out]; exact rt_maz hR'.out) hq).2⟩
  have rx4:=rx3.ext hb4
  have hbr4:=below_next hbr3 hb4
  clear hb3 hb4 ho3 hbr2 kx4 hs4 rx3
  go_wp2_with fail
  refine (kclear_any H3 0 0 64 P _ _ _ k4 (by rw [hl3.out]; exact hpl) (by omega)).mono ?_
  rintro r w5 ⟨rfl,H5,e5,k5,s5,q5⟩
  have hl5:Hid (H5.sp.length = H3.sp.length):=Lib.hid (by
   have e1:=congrArg (fun k=>k.m.sp.length) q5
   refine spH_len (e1.trans ?_)
   exact clears_sp _ _ _ _ _)
  obtain ⟨m',hm1,hG⟩:=exit_ok hR'.out hC'.out (p:=P) (by rw [spH]; exact hpl)
  have hm2:exitK H.ma P = ⟨setSp H5.ma P zSp,e5⟩:=by
   unfold exitK
   rw [← hma.out,← q5]
  rw [hm2] at hm1
  obtain ⟨rfl,rfl⟩:=Kp.mk.inj hm1
  have hG':=Lib.hid hG
  have rx5:=s5.blk k4 rx4 machT
  have hbr5:=below_tr hbr4 (s5.to k4 (Nat.le_refl _))
  have hp5:P < H5.sp.length:=by rw [hl5.out,hl3.out]; exact hpl
  have hp5i:(P:Int) < (H5.sp.length:Int):=by omega
  clear hm1 hm2 hG q5 s5 k4 rx4 hbr4
  obtain ⟨g,off,cur,hap,hBg,hblk,hfit,hset⟩:=k5.putP hp5
  have hc5:=k5.blk.cell
  unfold kpC at hc5
  rw [hap] at hc5
  have rxl:=rx5.lt
  go_wp2_with (refine wpList_st rfl _ _ _ rfl g (off + P * 10) #[.bool false,.slice none 0 0,.slice none 0 0,.slice none 0 0,.slice none 0 0,.slice none 0 0,.slice none 0 0,.slice none 0 0,.slice none 0 0,.slice none 0 0] rfl rfl _ _ hblk hfit space_size (by simp [Value.oneCell']) ?_)
  intro w6 hb6 hg6
  have k6:=hset w6 zPS (Own.nil _ _ _ _) (zTb_O _ _) (right_sz zTb_right) hb6 hg6
  have rx6:=blk_keep rx5 hblk (by decide) hg6
  have hbr6:=hbr5.grown hg6 hbr5.size (fun k hk=>by cases hk; exact hBg)
  clear hc5 k5 rx5 hbr5 hb6 hg6 hset hblk hfit hap
  have hc6:=k6.blk.cell
  unfold kpC at hc6
  go_wp2_with (first | (refine wpList_ldg _ _ rfl w3.heap.size 0 rfl rfl (mhC { H5 with sp:=H5.sp.set P zPS }).toList (blk_part k6.blk 0 11) _ Try.underlying40 rfl machine_size ?_) | (refine wpList_stw rfl _ _ _ rfl (w.heap.size + 1) (mhC { H5 with sp:=H5.sp.set P zPS }) rfl rfl _ _ rx6 rfl mach_size (mhC_one _) ?_))
  intro w7 rx7 hg7
  have hbre:=hbr6.grown hg7 hbr6.size (fun k hk=>by cases hk; omega)
  have hme:=k6.ma.keep rx6 (by decide) hg7
  go_wp2
  refine bodyPost_ret (v:=.tuple #[.agg (mhC { H5 with sp:=H5.sp.set P zPS }),.int .i64 0]) (results_ct Try.results24 _ _ (w.heap.size + 1) _ _ _ _ rfl rfl rx7 Try.underlying40 rfl mach_size) rfl ?_
  exact ⟨hbre,.inr ⟨hnb.out,_,rfl,hme,by rw [setSp_H]; exact hG'.out⟩⟩
def deadP (P:PS):Bool:=!P.lv
theorem fork1_any (P:PS) (w:World):Calls Try.prog 72 #[.agg (psC P)] w fun r w'=>r = .returned (.bool (deadP P)) ∧ Below w.heap.size w w':=by
 go_enter Try.func72,Try.ntmps72
 go_upto_region 1 with (fail)
 refine abs1 (fun W=>Code.wp _ _ _ _ W) fun W0 hb0 hx0 hs0 => ?_
 clear hs0
 have hcx:=hx0.cell
 have q0:(psC P)[0]? = some (.bool P.lv):=rfl
 go_wp2
 go_ret
 exact ⟨rfl,hb0⟩
theorem ps_elem {w:World} {a:Option Addr} {l:List PS} (h:RdV w a (l.flatMap psL)) (k:Nat) (hk:k < l.length):∃ b off,a = some ⟨b,off,none⟩ ∧ RdV w (some ⟨b,off + k * 10,none⟩) (psL l[k]):=elemR psL_len (by decide) h k hk
theorem idxdead_any (l:List PS) (a:Option Addr) (c:Nat) (w:World) (hrd:RdV w a (l.flatMap psL)) (hl:l.length ≤ 9223372036854775807)  :
  Calls Try.prog 71 #[.slice a l.length c,.func (.func 72) #[] #[]] w fun e w'=>e = .returned (.int .i64 (idx deadP l)) ∧ Below w.heap.size w w':=by
 go_enter Try.func71,Try.ntmps71
 go_wp2
 go_loopw [8] (fun i wr => ∃ k:Nat,k ≤ l.length ∧ i = .int .i64 k ∧ Below w.heap.size w wr ∧ ∀ i (h:i < l.length),i < k → deadP l[i] = false) (fun i _=>l.length - (intOf i).toNat)
 case atStart=>exact ⟨0,Nat.zero_le _,rfl,Below.refl _ _,fun i _ h=>absurd h (Nat.not_lt_zero _)⟩
 case round=>
  obtain ⟨k,hk,rfl,hbr,hp0⟩:=hrel
  have hp:=Lib.hid hp0
  clear hp0
  by_cases hlt:k < l.length
  ·obtain ⟨b,off,rfl,hel⟩:=ps_elem (hrd.below hbr) k hlt
   go_wp2_with (refine wpList_ldg _ _ rfl b (off + k * 10) rfl rfl _ hel _ Try.underlying65 rfl space_size ?_)
   refine (fork1_any l[k] _).mono ?_
   rintro e w2 ⟨rfl,hb2⟩
   have hbel2:=below_next hbr hb2
   clear hb2
   cases hpk:deadP l[k]
   ·have hpk':=Lib.hid hpk
    clear hpk
    go_wp2
    go_roundw
    case rel=>exact ⟨k + 1,by omega,by go_num,hbel2,upto' hp.out hlt hpk'.out⟩
    case measure=>simp [intOf]; omega
   ·have hfin:=Lib.hid (idx_at deadP l k hlt hp.out hpk)
    clear hpk
    go_wp2
    go_ret
    exact ⟨ret_int hfin.out.symm,hbel2⟩
  ·have hfin:=Lib.hid (idx_none deadP l fun i h=>hp.out i h (by omega))
   go_wp2
   go_ret
   exact ⟨ret_int hfin.out.symm,hbr⟩
theorem idx_dead (H:MH):idx deadP H.sp = deadI H.ma:=by
 unfold deadI idx MH.ma
 rw [List.findIdx?_map]
 rfl
theorem KpO.appP {w w1 w2:World} {B b:Nat} {H:MH} {e:Int} (h:KpO w B b H e) (hg:w.grownBy w1 (Value.slice H.ap H.sp.length H.cp).ownBlock) {a:Option Addr} {c:Nat} {l:List PS} (ho:Own w1 B 65 10 (.slice a l.length c) l.length (l.flatMap psL))
  (hp:∀ p ∈ l,Own w1 B 69 7 (.slice p.aa p.ar.length p.ac) p.ar.length (p.ar.flatMap arL) ∧ TbO w1 B (tsC p.ts) p.tb) (htz:∀ p ∈ l,TbSz p.tb) (hb:Blk w2 b (putAt (kpC H e) 10 [.slice a l.length c]) 143) (hg2:w1.grownBy w2 (some b)) :
  KpO w2 B b { H with ap:=a,cp:=c,sp:=l } e:=by
 have m:=h.ma
 have key:Blk w1 b (kpC H e) 143 ∧ Own w1 B 59 13 (.slice H.af H.m.fs.length H.cf) H.m.fs.length (H.m.fs.flatMap frL) ∧ Own w1 B 3 1 (.slice H.asl H.sl.length H.csl) H.sl.length (H.sl.map inV) ∧
   DOwn w1 B (.slice H.wb H.sw.blocks.length H.cwb) (.slice H.wq H.sw.queue.length H.cwq) H.sw ∧ DOwn w1 B (.slice H.db H.dk.blocks.length H.cdb) (.slice H.dq H.dk.queue.length H.cdq) H.dk ∧ FsO w1 B (.slice H.ai H.fi.length H.ci) H.fi ∧
   Own w1 B 85 3 (.slice H.ac H.ca.length H.cc) H.ca.length (H.ca.flatMap ccL):=by
  rcases grow_sp m.sp hg with h1 | ⟨g,cs,hk,_,hg'⟩
  ·have hb0:=grown_below h1
   have k:=m.below hb0
   exact ⟨h.blk.ext hb0,k.fr,k.sl,k.sw,k.dk,k.st,k.ca⟩
  ·exact ⟨blk_keep h.blk hk (by decide) hg',own_keep m.fr hk (by decide) hg',own_keep m.sl hk (by decide) hg',m.sw.keep hk (by decide) (by decide) hg',m.dk.keep hk (by decide) (by decide) hg',m.st.keep hk (by decide) (by decide) hg',own_keep m.ca hk (by decide) hg'⟩
 obtain ⟨k0,k1,k2,k3,k4,k5,k6⟩:=key
 exact ⟨hb,h.ge,⟨own_keep k1 k0 (by decide) hg2,own_keep k2 k0 (by decide) hg2,k3.keep k0 (by decide) (by decide) hg2,k4.keep k0 (by decide) (by decide) hg2,k5.keep k0 (by decide) (by decide) hg2,own_keep k6 k0 (by decide) hg2,own_keep ho k0 (by decide) hg2,fun p hpm=>⟨own_keep (hp p hpm).1 k0 (by decide) hg2,(hp p hpm).2.keep k0 (by decide) hg2⟩,m.c64⟩,htz⟩
theorem share_sp (k:Kp) (p q:Nat) (n:Int):(shareK k p q n).m.sp.length = k.m.sp.length ∧ ∀ j,(spN (shareK k p q n).m j).ar = (spN k.m j).ar:=by
 unfold shareK
 dsimp only
 have hh:∀ f n,(fholdK k f n).m.sp.length = k.m.sp.length ∧ ∀ j,(spN (fholdK k f n).m j).ar = (spN k.m j).ar:=fun f n=>by
  unfold spN
  rw [fhold_sp]
  exact ⟨rfl,fun _=>rfl⟩
 split
 ·split
  ·exact ⟨rfl,fun _=>rfl⟩
  ·exact enter_sp _ _ _ _
 ·split
  ·have h1:=enter_sp (fholdK k (ent k.m p n).n 1) q n (ent k.m p n)
   have h2:=hh (ent k.m p n).n 1
   exact ⟨h1.1.trans h2.1,fun j=>(h1.2 j).trans (h2.2 j)⟩
  ·have h1:=enter_sp (enterK (fholdK k (ent k.m p n).n 1) p n ⟨(ent k.m p n).k,(ent k.m p n).n,false⟩) q n ⟨(ent k.m p n).k,(ent k.m p n).n,false⟩
   have h3:=enter_sp (fholdK k (ent k.m p n).n 1) p n ⟨(ent k.m p n).k,(ent k.m p n).n,false⟩
   have h2:=hh (ent k.m p n).n 1
   exact ⟨h1.1.trans (h3.1.trans h2.1),fun j=>(h1.2 j).trans ((h3.2 j).trans (h2.2 j))⟩
theorem shares_sp (p q:Nat) (l:List Int) (k:Kp):(sharesK k p q l).m.sp.length = k.m.sp.length ∧ ∀ j,(spN (sharesK k p q l).m j).ar = (spN k.m j).ar:=by
 unfold sharesK
 induction l generalizing k with
 | nil=>exact ⟨rfl,fun _=>rfl⟩
 | cons i l ih=>
  rw [List.foldl_cons]
  have h1:=ih (shareK k p q i)
  have h2:=share_sp k p q i
  exact ⟨h1.1.trans h2.1,fun j=>(h1.2 j).trans (h2.2 j)⟩
theorem shares_take (k:Kp) (p q:Nat) (l:List Int) (j:Nat) (hj:j < l.length):sharesK k p q (l.take (j + 1)) = shareK (sharesK k p q (l.take j)) p q l[j]:=by
 unfold sharesK
 rw [List.take_add_one,List.foldl_append,List.getElem?_eq_getElem hj]
 rfl
def fkR (B:Nat) (l:List Ar):Rel:=⟨fun v w => ∃ a c,v = .agg #[.bool true,.slice a l.length c,.slice none 0 0,.slice none 0 0,.slice none 0 0,.slice none 0 0,.slice none 0 0,.slice none 0 0,.slice none 0 0,.slice none 0 0] ∧ Own w B 69 7 (.slice a l.length c) l.length (l.flatMap arL),
 fun _ _ _ hb ⟨a,c,h1,h2⟩=>⟨a,c,h1,h2.below hb⟩⟩
def newQ (m:Ma) (q:Nat):Prop:=q = m.sp.length ∧ m.sp.length < 4 ∨ q < m.sp.length ∧ (spN m q).lv = false
def FkR (H:MH) (p:Int) (w:World) (r:Ending) (w' : World):Prop:=
 Below w.heap.size w w' ∧ ((badP H p ∧ r = .returned (.tuple #[.agg (mhC noH),.int .i64 0,.int .i64 5])) ∨ (¬ badP H p ∧ deadI H.ma < 0 ∧ H.sp.length = 4 ∧ r = .returned (.tuple #[.agg (mhC noH),.int .i64 0,.int .i64 4])) ∨
  (¬ badP H p ∧ ∃ (H' : MH) (q:Nat),newQ H.ma q ∧ r = .returned (.tuple #[.agg (mhC H'),.int .i64 q,.int .i64 0]) ∧ MaO w' w.heap.size H' ∧ Forked H.ma H'.ma p.toNat q))
theorem fork_any (H:MH) (p:Int) (w:World) (h:MaR w H) (hR:Rt H.ma) (hC:Co H.ma) :
  Calls Try.prog 22 #[.agg (mhC H),.int .i64 p] w (FkR H p w):=by
 have hR':=Lib.hid hR
 have hC':=Lib.hid hC
 clear hR hC
 go_enter Try.func22,Try.ntmps22
 go_upto_region 1 with (fail)
 refine abs2 (fun W=>Code.wp _ _ _ _ W) fun w1 hb1 bx1 rx1 hs1 => ?_
 have rx1:Blk w1 (w.heap.size + 1) (mhC noH) 40:=rx1
 have h1:=h.below hb1
 clear h
 go_wp2_with (refine wpList_ldg _ _ rfl w.heap.size 0 rfl rfl _ bx1.rd _ Try.underlying40 rfl machine_size ?_)
 refine (machine_wrong H _ h1).mono ?_
 rintro r w2 ⟨rfl,hb2⟩
 rw [rt_iff.2 hR'.out]
 have h2:=h1.below hb2
 have bx2:=bx1.ext hb2
 have rx2:=rx1.ext hb2
 have hbr2:=below_next hb1 hb2
 clear h1 bx1 rx1 hb1 hb2 hs1
 have hc:=bx2.cell
 unfold mhC at hc
 by_cases c1:p < 0
 ·have hbad:Hid (badP H p):=Lib.hid (.inl c1)
  go_wp2_with (refine wpList_stw rfl _ _ _ rfl (w.heap.size + 1) (mhC noH) rfl rfl _ _ rx2 rfl mach_size (mhC_one noH) ?_)
  intro we hre hge
  have hbre:=hbr2.grown hge hbr2.size (fun k hk=>by cases hk; omega)
  go_wp2
  refine bodyPost_ret (v:=.tuple #[.agg (mhC noH),.int .i64 0,.int .i64 5]) (results_ctt Try.results22 _ _ (w.heap.size + 1) _ _ _ _ _ rfl rfl rfl hre Try.underlying40 rfl mach_size) rfl ?_
  exact ⟨hbre,.inl ⟨hbad.out,rfl⟩⟩
 by_cases c2:(H.sp.length:Int) ≤ p
 ·have hbad:Hid (badP H p):=Lib.hid (.inr (.inl c2))
  go_wp2_with (refine wpList_stw rfl _ _ _ rfl (w.heap.size + 1) (mhC noH) rfl rfl _ _ rx2 rfl mach_size (mhC_one noH) ?_)
  intro we hre hge
  have hbre:=hbr2.grown hge hbr2.size (fun k hk=>by cases hk; omega)
  go_wp2
  refine bodyPost_ret (v:=.tuple #[.agg (mhC noH),.int .i64 0,.int .i64 5]) (results_ctt Try.results22 _ _ (w.heap.size + 1) _ _ _ _ _ rfl rfl rfl hre Try.underlying40 rfl mach_size) rfl ?_
  exact ⟨hbre,.inl ⟨hbad.out,rfl⟩⟩
 obtain ⟨P,hP⟩:∃ P:Nat,p = P:=⟨p.toNat,by omega⟩
 subst hP
 have hpl:P < H.sp.length:=by omega
 obtain ⟨gs,os,Q,haq,hQ,hrd⟩:=ps_at h2.sp.rd P hpl
 rw [haq] at hc
 have hlv:w2.cell? ⟨gs,os + P * 10,none⟩ = some (.bool Q.lv):=by
  obtain ⟨b',o',e',hc'⟩:=hrd 0 _ rfl
  cases e'
  exact hc'
 have hsp:=Lib.hid (spN_H hQ)
 cases hlvQ:Q.lv with
 | false=>
  rw [hlvQ] at hlv
  have hbad:Hid (badP H (P:Int)):=Lib.hid (.inr (.inr (by rw [Int.toNat_natCast,hsp.out]; exact hlvQ)))
  go_wp2_with (refine wpList_stw rfl _ _ _ rfl (w.heap.size + 1) (mhC noH) rfl rfl _ _ rx2 rfl mach_size (mhC_one noH) ?_)
  intro we hre hge
  have hbre:=hbr2.grown hge hbr2.size (fun k hk=>by cases hk; omega)
  go_wp2
  refine bodyPost_ret (v:=.tuple #[.agg (mhC noH),.int .i64 0,.int .i64 5]) (results_ctt Try.results22 _ _ (w.heap.size + 1) _ _ _ _ _ rfl rfl rfl hre Try.underlying40 rfl mach_size) rfl ?_
  exact ⟨hbre,.inl ⟨hbad.out,rfl⟩⟩
 | true=>
  rw [hlvQ] at hlv
  have hnb:Hid (¬ badP H (P:Int)):=Lib.hid (by
   rintro (e | e | e)
   ·exact c1 e
   ·exact c2 e
   ·rw [Int.toNat_natCast,hsp.out] at e; exact absurd (hlvQ.symm.trans e) (by decide))
  have hsr:=h2.sp
  rw [haq] at hsr
  have h4:Hid (H.sp.length ≤ 4):=Lib.hid (by have:=hR'.out.pt.spl; rw [spH] at this; exact this)
  go_wp2_with fail
  refine (idxdead_any H.sp (some ⟨gs,os,none⟩) H.cp _ hsr.rd (by have:=h4.out; omega)).mono ?_
  rintro r w2' ⟨rfl,hbd⟩
  rw [idx_dead]
  have h2':=h2.below hbd
  have bx2':=bx2.ext hbd
  have rx2':=rx2.ext hbd
  have hbr2':=below_next hbr2 hbd
  clear hc hlv hrd h2 haq hsr bx2 rx2 hbr2 hbd
  have hc:=bx2'.cell
  unfold mhC at hc
  generalize hdI:deadI H.ma = d
  have hd':=Lib.hid hdI
  clear hdI
  by_cases d0:d < 0 ∧ H.sp.length = 4
  ·obtain ⟨d1,d2⟩:=d0
   have hbr2:=hbr2'
   have rx2:=rx2'
   rw [d2] at hc
   go_wp2_with (refine wpList_stw rfl _ _ _ rfl (w.heap.size + 1) (mhC noH) rfl rfl _ _ rx2 rfl mach_size (mhC_one noH) ?_)
   intro we hre hge
   have hbre:=hbr2.grown hge hbr2.size (fun k hk=>by cases hk; omega)
   go_wp2
   refine bodyPost_ret (v:=.tuple #[.agg (mhC noH),.int .i64 0,.int .i64 4]) (results_ctt Try.results22 _ _ (w.heap.size + 1) _ _ _ _ _ rfl rfl rfl hre Try.underlying40 rfl mach_size) rfl ?_
   exact ⟨hbre,.inr (.inl ⟨hnb.out,by rw [hd'.out]; exact d1,d2,rfl⟩)⟩
  have hdl:Hid (¬ (d < 0 ∧ H.sp.length = 4)):=Lib.hid d0
  have hdq:Hid (0 ≤ d → ∃ k:Nat,d = k ∧ k < H.sp.length ∧ (spN H.ma k).lv = false):=Lib.hid (fun hd0=>by
   obtain ⟨k,hk,hkl,hkv⟩:=idx_nat (q:=fun s:Sp => !s.lv) (l:=H.ma.sp) (by show 0 ≤ deadI H.ma; rw [hd'.out]; exact hd0)
   refine ⟨k,hd'.out.symm.trans hk,by rw [spH] at hkl; exact hkl,?_⟩
   unfold spN
   rw [List.getD_eq_getElem?_getD,List.getElem?_eq_getElem hkl]
   simpa using hkv)
  go_upto_region 7 with (fail)
  go_cut [47] (fun s47 wx=>s47 = .bool false ∧ wx = w2')
  case first=>
   by_cases d1:d < 0
   ·have hl4:¬ (H.sp.length:Int) = 4:=fun e=>hdl.out ⟨d1,by omega⟩
    go_wp2
    go_meet
    case rel=>exact ⟨by simp [hl4],rfl⟩
   ·go_wp2
    go_meet
    case rel=>exact ⟨rfl,rfl⟩
  case rest=>
   obtain ⟨rfl,hwc⟩:=hcut
   subst hwc
   clear hc
   go_wp2_with (refine wpList_ldg _ _ rfl w.heap.size 0 rfl rfl _ bx2'.rd _ Try.underlying40 rfl machine_size ?_)
   refine (machine_own2 H _ h2' (rt_maz hR'.out)).mono ?_
   rintro r w3 ⟨H3,rfl,ho3,hma3,_,hb3⟩
   have hl3:Hid (H3.sp.length = H.sp.length):=Lib.hid (spH_len (by rw [hma3]))
   have hma:=Lib.hid hma3
   have rx3:=rx2'.ext hb3
   have hbr3:=below_next hbr2' hb3
   clear bx2' rx2' h2' hma3
   unfold mhC
   go_upto_if 54 with (fail)
   refine abs1 (fun W=>Code.wp _ _ _ _ W) fun w4 hb4 kx4 hs4 => ?_
   have k4:KpO w4 w.heap.size w3.heap.size H3 0:=⟨kx4,hbr3.size,(ho3.mono hbr2'.size).below hb4,fun q hq=>(MaZ.spz (H:=H3) (by rw [hma.out]; exact rt_maz hR'.out) hq).2⟩
   have rx4:=rx3.ext hb4
   have hbr4:=below_next hbr3 hb4
   obtain ⟨b,hbdef⟩:∃ b,w3.heap.size = b:=⟨_,rfl⟩
   rw [hbdef] at k4 ⊢
   clear hb3 hb4 ho3 hbr2' kx4 hs4 rx3 hbr3 hbdef
   go_cut [8] (fun s8 wx => ∃ (q:Nat) (HX:MH),s8 = .int .i64 q ∧ KpO wx w.heap.size b HX 0 ∧ Blk wx (w.heap.size + 1) (mhC noH) 40 ∧ Below w.heap.size w wx ∧ Hid (q < HX.sp.length ∧ HX.sp.length ≤ 4 ∧ P ≠ q ∧ (∃ Q',HX.sp[P]? = some Q' ∧ Q'.sp = spN H.ma P) ∧ setSp HX.ma q ⟨true,(spN H.ma P).ar,zTb⟩ = newSp H.ma P q ∧ newQ H.ma q))
   case first=>
    by_cases d1:d < 0
    ·have hl4:Hid (H3.sp.length = H.sp.length ∧ H.sp.length < 4):=Lib.hid ⟨hl3.out,by
      have:=h4.out
      have h5:¬ H.sp.length = 4:=fun e=>hdl.out ⟨d1,e⟩
      omega⟩
     have hc4:=k4.blk.cell
     unfold kpC at hc4
     have hownP:=k4.ma.sp
     go_wp2_with (at_builtin; go_must (refine wpList_appC rfl _ _ 38 rfl w.heap.size 65 _ 10 224 Try.underlying38 space_info rfl (by decide) _ H3.sp.length (H3.sp.flatMap psL) rfl (hownP.alloc _) (some ⟨w4.heap.size,0,none⟩) 1 1 (psL zPS) rfl (fun h=>(by cases h)) (Nat.le_refl _) rfl (RdV.new _ (psC zPS) _) (one_toList (by simp [psC,zPS,nTs,Value.oneCell'])) (by have:=hl4.out; unfold maxLen; omega) (by have:=hl4.out; omega) (le_alloc' hbr4.size _) ?_))
     intro v2 wa own2 hg2 hsn2
     have hal:=(Below.refl w4.heap.size w4).alloc (Nat.le_refl _) (.cells (psC zPS) 65)
     have k4a:=k4.below hal
     have hownP1:Own (w4.alloc (.cells (psC zPS) 65)) w.heap.size 65 10 (.slice H3.ap H3.sp.length H3.cp) H3.sp.length (H3.sp.flatMap psL):=k4a.ma.sp
     have hbk2:=grow_blk hownP1 hg2 k4a.blk (by decide)
     have rxa:=grow_blk hownP1 hg2 (rx4.ext hal) (by decide)
     have hps2:∀ p ∈ H3.sp ++ [zPS],Own wa w.heap.size 69 7 (.slice p.aa p.ar.length p.ac) p.ar.length (p.ar.flatMap arL) ∧ TbO wa w.heap.size (tsC p.ts) p.tb:=fun p hp=>by
      rcases List.mem_append.1 hp with hp | hp
      ·exact ⟨grow_own hownP1 hg2 (k4a.ma.ps p hp).1 (by decide),grow_tb hownP1 hg2 (k4a.ma.ps p hp).2⟩
      ·rw [List.mem_singleton.1 hp]
       exact ⟨Own.nil _ _ _ _,zTb_O _ _⟩
     have htz2:∀ p ∈ H3.sp ++ [zPS],TbSz p.tb:=fun p hp=>by
      rcases List.mem_append.1 hp with hp | hp
      ·exact k4a.tz p hp
      ·rw [List.mem_singleton.1 hp]
       exact right_sz zTb_right
     have hbra:Below w.heap.size w wa:=(below_next hbr4 hal).grown hg2 (below_next hbr4 hal).size (fun k hk=>hownP1.ge k hk)
     obtain ⟨a2,c2,rfl,_⟩:=own2.rd
     have hlen2:(H3.sp ++ [zPS]).length = H3.sp.length + 1:=by simp
     have own2' : Own wa w.heap.size 65 10 (.slice a2 (H3.sp ++ [zPS]).length c2) (H3.sp ++ [zPS]).length ((H3.sp ++ [zPS]).flatMap psL):=by
      rw [hlen2,List.flatMap_append]
      simpa using own2
     clear hc4 hownP own2 hal rx4 hbr4
     go_wp2_with (refine wpList_stv rfl _ _ _ rfl b 10 _ [.slice a2 (H3.sp.length + 1) c2] rfl rfl rfl _ _ hbk2 (by show 10 + 1 ≤ 12; omega) (by kernel_rfl) (fun u hu=>by cases List.mem_singleton.1 hu; rfl) ?_)
     intro w5 hb5 hg5
     have k5:=k4a.appP hg2 own2' hps2 htz2 (by rw [hlen2]; exact hb5) hg5
     have rx5:=blk_keep rxa hbk2 (by decide) hg5
     have hbr5:=hbra.grown hg5 hbra.size (fun k hk=>by cases hk; exact k4.ge)
     clear hb5 hg5 hbk2 rxa hbra hps2 htz2 own2' hownP1 hg2 hsn2 k4 k4a
     go_wp2
     go_meet
     case rel=>
      have hz:=hl4.out
      have hm:=hma.out
      refine ⟨H3.sp.length,_,rfl,k5,rx5,hbr5,Lib.hid ⟨by simp,by simp; omega,by omega,?_,?_,.inl ⟨by rw [spH]; omega,by rw [spH]; omega⟩⟩⟩
      ·have hp3:P < H3.sp.length:=by omega
       refine ⟨H3.sp[P],by rw [List.getElem?_append_left hp3]; exact List.getElem?_eq_getElem hp3,?_⟩
       rw [← hm]
       exact (spN_H (List.getElem?_eq_getElem hp3)).symm
      ·unfold newSp
       rw [if_pos (by rw [spH]; exact hz.1),← hm]
       unfold setSp MH.ma
       simp [List.map_append,List.set_append_right]
    ·obtain ⟨k,rfl,hk1,hk2⟩:=hdq.out (by omega)
     have hk':=Lib.hid (And.intro hk1 hk2)
     clear hk1 hk2
     go_wp2
     go_meet
     case rel=>
      have hz:=hk'.out
      have hm:=hma.out
      have hp3:P < H3.sp.length:=by rw [hl3.out]; exact hpl
      refine ⟨k,H3,rfl,k4,rx4,hbr4,Lib.hid ⟨by rw [hl3.out]; exact hz.1,by rw [hl3.out]; exact h4.out,fun e => ?_,⟨H3.sp[P],List.getElem?_eq_getElem hp3,?_⟩,?_,.inr ⟨by rw [spH]; exact hz.1,hz.2⟩⟩⟩
      ·have h9:=hz.2
       rw [← e,hsp.out] at h9
       exact absurd (hlvQ.symm.trans h9) (by decide)
      ·rw [← hm]
       exact (spN_H (List.getElem?_eq_getElem hp3)).symm
      ·unfold newSp
       rw [if_neg (by rw [spH]; omega),hm]
   case rest=>
    obtain ⟨q,HX,rfl,kx,rx,hbx,hf⟩:=hcut
    clear k4 rx4 hbr4
    obtain ⟨hq1,hx4,hPq,⟨Q',hQ',hQs⟩,hset0,hnq⟩:=hf.out
    clear hf
    have hset':=Lib.hid hset0
    have hnq':=Lib.hid hnq
    have hQs':=Lib.hid hQs
    clear hset0 hnq hQs
    obtain ⟨g,off,cur,hap,hBg,hblk,hfit,hput⟩:=kx.putP hq1
    have hP1:=(List.getElem?_eq_some_iff.1 hQ').1
    have hP1i:(P:Int) < (HX.sp.length:Int):=by omega
    have hq1i:(q:Int) < (HX.sp.length:Int):=by omega
    have hcA:∀ W,Below wc.heap.size wc W → W.cell? ⟨g,off + P * 10 + 1,none⟩ = some (.slice Q'.aa Q'.ar.length Q'.ac):=fun W hb=>by
     obtain ⟨g',off',hap',hrd,_,_⟩:=(kx.below hb).at hQ'
     rw [hap] at hap'
     cases hap'
     obtain ⟨b',o',e',hc'⟩:=hrd 1 _ rfl
     cases e'
     exact hc'
    have hA:=((kx.ma.rd.ps Q' (List.mem_of_getElem? hQ'))).ars
    have hA40:Q'.ar.length * 40 ≤ 140737488355328:=by
     have h9:=(wrongA_iff.1 (hR'.out.pt.ar _ (spN_mem (m:=H.ma) (p:=P) (by rw [spH]; exact hpl)))).1
     rw [← hQs'.out] at h9
     have:Q'.sp.ar.length = Q'.ar.length:=rfl
     omega
    go_upto_region 13 with (fail)
    refine wp_growP 18 [_,_,_,_,_,_,_,_,_,_,_,_,_,_,_,.r 15 ((ownR wc.heap.size 69 7 Q'.ar.length (Q'.ar.flatMap arL))),.r 16 ((fkR wc.heap.size Q'.ar)),_] (Gk rfl (Gk rfl (Gf b 0 rfl rfl (Gf b 10 rfl rfl (Gl kx.blk (V:=.slice (some ⟨g,off,none⟩) HX.sp.length HX.cp) (by simp [kpC,hap]) rfl rfl rfl rfl (Gk rfl (Gk rfl (Gk rfl (Gf b 0 rfl rfl (Gf b 10 rfl rfl (Gl kx.blk (V:=.slice (some ⟨g,off,none⟩) HX.sp.length HX.cp) (by simp [kpC,hap]) rfl rfl rfl rfl (Gk rfl (Gr (.pointer (some ⟨g,off + P * 10,none⟩)) (fun ρ y W hb hKn=>(run_idx rfl (kx_at rfl hKn) (kx_at rfl hKn) hP1 Try.underlying38 space_size)) rfl rfl (Gf g (off + P * 10 + 1) rfl rfl (Gc (.slice Q'.aa Q'.ar.length Q'.ac) (fun W hb=>by simp [hcA _ hb]) rfl rfl rfl rfl (all_cons ?_ (all_cons ?_ (Gr (.pointer (some ⟨g,off + q * 10,none⟩)) (fun ρ y W hb hKn=>(run_idx rfl (kx_at rfl hKn) (kx_at rfl hKn) hq1 Try.underlying38 space_size)) rfl rfl (all_nil))))))))))))))))))) (fun _=>rfl) rfl ?_
    ·intro ρ y W hw hn hb hd; have E87:=hw 87 14 rfl; have h14:y 14 = _:=hd 14 rfl
     have EF:∀ f,ρ (.func f) = .func (.func f) #[] #[]:=fun f=>hn (.func f) trivial
     refine asked_call _ _ (want_free rfl) (run_call rfl (EF _) Try.func59 (by kernel_rfl) (by kernel_rfl) (by simp only [List.map_toArray,List.map_cons,List.map_nil,E87,h14,EF]; rfl)) ?_
     refine (clone_areas Q'.ar Q'.aa Q'.ac W hA.le hA.nl (hA.below hb).rd hA40).mono ?_
     rintro e w1 ⟨u,rfl,ho,hb1⟩
     exact ⟨_,rfl,hb1,ho.mono hb.size⟩
    ·intro ρ y W hw hn hb hd; have E88:=hw 88 15 rfl; have h15:=hd 15 rfl
     obtain ⟨ua,uc,hu,_⟩:=Own.rd h15
     have h15o:Own W wc.heap.size 69 7 (y 15) Q'.ar.length (Q'.ar.flatMap arL):=h15
     rw [hu] at h15o
     refine asked_val (.agg #[.bool true,.slice ua Q'.ar.length uc,.slice none 0 0,.slice none 0 0,.slice none 0 0,.slice none 0 0,.slice none 0 0,.slice none 0 0,.slice none 0 0,.slice none 0 0]) (want_free rfl) (by simp [execOp,go_sem,E88,hu,hn (.const _) trivial,Act.eval]) ?_
     exact ⟨ua,uc,rfl,h15o⟩
    intro y W5 hbW5 hRW5
    have hy15:((ownR wc.heap.size 69 7 Q'.ar.length (Q'.ar.flatMap arL))).r (y 15) W5:=hRW5 15 (by decide)
    have hy16:((fkR wc.heap.size Q'.ar)).r (y 16) W5:=hRW5 16 (by decide)
    clear hRW5
    obtain ⟨ua,uc,e16,ho5⟩:=hy16
    simp only [e16]
    clear e16 hy15
    have hblk5:=hblk.ext hbW5
    go_wp2_with (refine wpList_st rfl _ _ _ rfl g (off + q * 10) #[.bool true,.slice ua Q'.ar.length uc,.slice none 0 0,.slice none 0 0,.slice none 0 0,.slice none 0 0,.slice none 0 0,.slice none 0 0,.slice none 0 0,.slice none 0 0] rfl rfl _ _ hblk5 hfit space_size (by simp [Value.oneCell']) ?_)
    intro w6 hb6 hg6
    obtain ⟨g',off',cur',hap',_,hblk',_,hput'⟩:=(kx.below hbW5).putP hq1
    rw [hap] at hap'
    cases hap'
    have hcur:cur' = cur:=by
     unfold Blk at hblk' hblk5
     rw [hblk'] at hblk5
     simpa using hblk5
    subst hcur
    have k6:=hput' w6 ⟨true,ua,uc,Q'.ar,nTs,zTb⟩ (ho5.mono hbx.size) (zTb_O _ _) (right_sz zTb_right) hb6 hg6
    have rx6:=blk_keep (rx.ext hbW5) hblk5 (by decide) hg6
    have hbr6:=(below_next hbx hbW5).grown hg6 (below_next hbx hbW5).size (fun k hk=>by cases hk; exact hBg)
    have hQ6:(HX.sp.set q ⟨true,ua,uc,Q'.ar,nTs,zTb⟩)[P]? = some Q':=by rw [List.getElem?_set_ne (fun e=>hPq e.symm)]; exact hQ'
    have hm6:Hid (MH.ma { HX with sp:=HX.sp.set q ⟨true,ua,uc,Q'.ar,nTs,zTb⟩ } = newSp H.ma P q):=Lib.hid (by
     rw [setSp_H,← hset'.out,← hQs'.out]
     rfl)
    have hl6:Hid ((HX.sp.set q ⟨true,ua,uc,Q'.ar,nTs,zTb⟩).length = HX.sp.length):=Lib.hid List.length_set
    clear hcA hap hblk hfit hput hput' hblk' hblk5 hb6 hg6 ho5 kx rx hbx hbW5 hA hA40 hQ' hBg
    have hS:∃ HS:MH,HS = { HX with sp:=HX.sp.set q ⟨true,ua,uc,Q'.ar,nTs,zTb⟩ }:=⟨_,rfl⟩
    obtain ⟨HS,hHS⟩:=hS
    rw [← hHS] at k6 hm6
    have hQ6:HS.sp[P]? = some Q':=by rw [hHS]; exact hQ6
    have hlS:Hid (HS.sp.length = HX.sp.length):=Lib.hid (by rw [hHS]; exact hl6.out)
    clear hHS hl6
    have hq2:q < HS.sp.length:=by rw [hlS.out]; exact hq1
    have hP2:P < HS.sp.length:=by rw [hlS.out]; exact hP1
    have hP2i:(P:Int) < (HS.sp.length:Int):=by omega
    obtain ⟨g6,off6,hap6,hrd6,hrt6,hgood6⟩:=k6.at hQ6
    have hc6:=k6.blk.cell
    unfold kpC at hc6
    rw [hap6] at hc6
    go_wp2_with (refine wpList_ldg _ _ rfl g6 (off6 + P * 10 + 2) rfl rfl _ hrt6 _ Try.underlying63 tab_agg tab_size ?_)
    refine (tpages_any Q'.tb (tsC Q'.ts) _ hgood6.tb).mono ?_
    rintro r w7 ⟨v7,rfl,ho7,hb7⟩
    obtain ⟨a7,c7,rfl,_,hmx7,_,_⟩:=ho7.rd
    have hin:=Lib.hid (fun n (hn:n ∈ pagesL Q'.tb)=>(mem_pages.1 hn))
    have hfk:Hid (forkK H.ma P q = sharesK ⟨newSp H.ma P q,0⟩ P q (pagesL Q'.tb)):=Lib.hid (by unfold forkK; rw [← hQs'.out]; rfl)
    generalize pagesL Q'.tb = l at *
    have k7:=k6.below hb7
    have s7:=(KS.refl w6 b HS).below hb7
    unfold maxLen at hmx7
    clear hc6 hrd6 hrt6 hgood6 hap6 hb7
    go_wp2
    go_loopw [102] (fun s102 wr => ∃ (j:Nat) (Hj:MH) (ej:Int),j ≤ l.length ∧ s102 = .int .i64 j ∧ KpO wr w.heap.size b Hj ej ∧ KS w6 b HS wr Hj ∧ Hid (Kp.mk Hj.ma ej = sharesK ⟨newSp H.ma P q,0⟩ P q (l.take j)) ∧ Own wr w6.heap.size 3 1 (.slice a7 l.length c7) l.length (l.map inV)) (fun s102 _=>l.length - (intOf s102).toNat)
    case atStart=>exact ⟨0,HS,0,Nat.zero_le _,rfl,k7,s7,Lib.hid (by rw [hm6.out]; rfl),ho7⟩
    case round=>
     clear ho7 k7 s7
     obtain ⟨j,Hj,ej,hj,rfl,hj3,sj3,qj,hoj⟩:=hrel
     by_cases hjl:j < l.length
     ·have hji:(j:Int) < (l.length:Int):=by omega
      obtain ⟨_,_,e9,_,_,_,hrL⟩:=hoj.rd
      cases e9
      obtain ⟨bl,ol,rfl,hcj⟩:=hrL j (inV l[j]) (by rw [List.getElem?_map,List.getElem?_eq_getElem hjl]; rfl)
      unfold inV at hcj
      have hi:=hin.out _ (List.getElem_mem hjl)
      have hstep:=Lib.hid (shares_take ⟨newSp H.ma P q,0⟩ P q l j hjl)
      generalize l[j] = i at *
      have hspj:=shares_sp P q (l.take j) ⟨newSp H.ma P q,0⟩
      rw [← qj.out,← hm6.out] at hspj
      have hlj:Hj.sp.length = HS.sp.length:=spH_len hspj.1
      have hfi:0 ≤ findA (spN Hj.ma P).ar i:=by
       rw [hspj.2,spN_H hQ6]
       have hne:(ent H.ma P i).k ≠ 0:=by unfold ent; rw [← hQs'.out]; exact hi.2
       obtain ⟨pg,hpg,_⟩:=hR'.out.en P i hne
       have:=(shA_pg hpg).2
       rw [← hQs'.out] at this
       exact this
      have hlj':=Lib.hid hlj
      clear hspj hlj
      go_wp2_with fail
      refine (kshare_any Hj ej i P q _ b _ hj3 (by rw [hlj'.out]; exact hP2) (by rw [hlj'.out]; exact hq2) hfi).mono ?_
      rintro r w8 ⟨rfl,H8,e8,h8,s8,q8⟩
      have ho8:=s8.own hj3 hoj (by decide)
      have s08:=sj3.trans s8
      have hq8:Hid (Kp.mk H8.ma e8 = sharesK ⟨newSp H.ma P q,0⟩ P q (l.take (j + 1))):=Lib.hid (by rw [hstep.out,← qj.out]; exact q8)
      clear q8 s8 hj3 sj3 hoj qj hrL hcj hfi hi
      go_wp2
      go_roundw
      case rel=>exact ⟨j + 1,H8,e8,by omega,by go_num,h8,s08,hq8,ho8⟩
      case measure=>simp [intOf]; omega
     ·have hji:¬ (j:Int) < (l.length:Int):=by omega
      rw [List.take_of_length_le (by omega)] at qj
      obtain ⟨m',hm1,hF⟩:=fork_ok hR'.out hC'.out (p:=P) (q:=q) (by rw [spH]; exact hpl) (by rw [hsp.out]; exact hlvQ) hnq'.out
      rw [hfk.out,← qj.out] at hm1
      obtain ⟨rfl,rfl⟩:=Kp.mk.inj hm1
      have hF':=Lib.hid hF
      have rxj:=sj3.blk k6 rx6 machT
      have hbrj:=below_tr hbr6 (sj3.to k6 (Nat.le_refl _))
      have rxl:=rxj.lt
      clear hoj qj hm1 hF sj3 k6 rx6 hbr6
      have hcj:=hj3.blk.cell
      unfold kpC at hcj
      go_wp2_with (first | (refine wpList_ldg _ _ rfl b 0 rfl rfl (mhC Hj).toList (blk_part hj3.blk 0 11) _ Try.underlying40 rfl machine_size ?_) | (refine wpList_stw rfl _ _ _ rfl (w.heap.size + 1) (mhC Hj) rfl rfl _ _ rxj rfl mach_size (mhC_one _) ?_))
      intro we rxe hge
      have hbre:=hbrj.grown hge hbrj.size (fun k hk=>by cases hk; omega)
      have hme:=hj3.ma.keep rxj (by decide) hge
      go_wp2
      refine bodyPost_ret (v:=.tuple #[.agg (mhC Hj),.int .i64 q,.int .i64 0]) (results_ctt Try.results22 _ _ (w.heap.size + 1) _ _ _ _ _ rfl rfl rfl rxe Try.underlying40 rfl mach_size) rfl ?_
      exact ⟨hbre,.inr (.inr ⟨hnb.out,Hj,q,hnq'.out,rfl,hme,hF'.out⟩)⟩
def freeFr (l:List Fr):Nat:=l.countP fun f=>decide (f.r = 0)
def freeSl (l:List Int):Nat:=l.countP fun n=>decide (n = 0)
theorem countP_take {α:Type} (q:α → Bool) (l:List α) (j:Nat) (hj:j < l.length):(l.take (j + 1)).countP q = (l.take j).countP q + if q l[j] = true then 1 else 0:=by
 rw [List.take_add_one,List.getElem?_eq_getElem hj,List.countP_append]
 simp [List.countP_cons]
theorem ii_size:(Try.prog.info? 77).map (·.size) = some 2:=by kernel_rfl
theorem int1_size:(Try.prog.info? 3).map (·.size) = some 1:=by kernel_rfl
theorem ii_one (a b:Int):(#[.int .i64 a,.int .i64 b]:Array Value).all (·.oneCell') = true:=by simp [Value.oneCell']
theorem free10_any (H:MH) (w:World) (h:MaR w H) (hz:MaZ H.ma) :
  Calls Try.prog 23 #[.agg (mhC H)] w fun r w'=>r = .returned (.agg #[.int .i64 (freeFr H.m.fs:Int),.int .i64 (freeSl H.sl:Int)]) ∧ Below w.heap.size w w':=by
 have hf1:H.m.fs.length ≤ 1000:=hz.fs
 have hs1:H.sl.length ≤ 1000:=hz.sl
 go_enter Try.func23,Try.ntmps23
 go_upto_region 2 with (fail)
 refine abs3 (fun W=>Code.wp _ _ _ _ W) fun w1 hb1 bx1 rx1 cx1 hs1' => ?_
 have cx1:Blk w1 (w.heap.size + 1 + 1) #[.int .i64 (((H.m.fs.take 0).countP fun f=>decide (f.r = 0):Nat):Int),.int .i64 0] 77:=cx1
 have h1:=h.below hb1
 have bx1:Blk w1 w.heap.size (mhC H) 40:=bx1
 have hh:=Lib.hid h
 clear h
 have hc:=bx1.cell
 unfold mhC at hc
 go_wp2
 go_loopw [12] (fun s12 wr => ∃ j:Nat,j ≤ H.m.fs.length ∧ s12 = .int .i64 j ∧ Below w.heap.size w wr ∧ Blk wr w.heap.size (mhC H) 40 ∧ Blk wr (w.heap.size + 1) #[.int .i64 0,.int .i64 0] 77 ∧ Blk wr (w.heap.size + 1 + 1) #[.int .i64 (((H.m.fs.take j).countP fun f=>decide (f.r = 0):Nat):Int),.int .i64 0] 77) (fun s12 _=>H.m.fs.length - (intOf s12).toNat)
 case atStart=>exact ⟨0,Nat.zero_le _,rfl,hb1,bx1,rx1,cx1⟩
 case round=>
  clear hb1 bx1 rx1 cx1 hc h1 hs1'
  obtain ⟨j,hj,rfl,hbr,bx,rx,cx⟩:=hrel
  have hR:=hh.out.below hbr
  by_cases hjl:j < H.m.fs.length
  ·have hji:(j:Int) < (H.m.fs.length:Int):=by omega
   obtain ⟨bf,of,haf,hel⟩:=elemR frL_len (by decide) hR.fr.rd j hjl
   have hct:Hid ((H.m.fs.take (j + 1)).countP (fun f=>decide (f.r = 0)) = (H.m.fs.take j).countP (fun f=>decide (f.r = 0)) + if decide ((H.m.fs[j]).r = 0) = true then 1 else 0):=Lib.hid (countP_take _ _ _ hjl)
   have hcl:(H.m.fs.take j).countP (fun f=>decide (f.r = 0)) ≤ j:=Nat.le_trans List.countP_le_length (by rw [List.length_take]; omega)
   generalize H.m.fs[j] = F at *
   generalize (H.m.fs.take j).countP (fun f=>decide (f.r = 0)) = C at *
   rw [haf]
   go_wp2_with (first | (refine wpList_ldg _ _ rfl bf (of + j * 13) rfl rfl _ hel _ Try.underlying59 rfl frame_size ?_) | (refine wpList_stn rfl _ _ _ rfl (frC F) rfl rfl rfl frame_size (frC_one _) ?_))
   intro w5 hb5 fx5
   have bx5:=bx.ext hb5
   have rx5:=rx.ext hb5
   have cx5:=cx.ext hb5
   have hbr5:=below_next hbr hb5
   clear bx rx cx hb5 hel hR haf hbr
   have hf5:=fx5.cell
   unfold frC at hf5
   have hcc:=cx5.cell
   by_cases hr:F.r = 0
   ·rw [hr] at hf5
    have hct' : Hid ((H.m.fs.take (j + 1)).countP (fun f=>decide (f.r = 0)) = C + 1):=Lib.hid (by rw [hct.out]; simp [hr])
    clear hct hr
    go_wp2_with (refine wpList_stv rfl _ _ _ rfl (w.heap.size + 1 + 1) 0 _ [.int .i64 ((C:Int) + 1)] rfl rfl rfl _ _ cx5 (by show 0 + 1 ≤ 2; decide) int1_size (fun u hu=>by cases List.mem_singleton.1 hu; rfl) ?_)
    intro w6 cx6 hg6
    have cx6' : Blk w6 (w.heap.size + 1 + 1) #[.int .i64 (((H.m.fs.take (j + 1)).countP (fun f=>decide (f.r = 0)):Nat):Int),.int .i64 0] 77:=by rw [hct'.out]; exact cx6
    have bx6:=bx5.grown hg6 (fun e=>by have:=Option.some.inj e; omega)
    have rx6:=rx5.grown hg6 (fun e=>by have:=Option.some.inj e; omega)
    have hbr6:=hbr5.grown hg6 hbr5.size (fun k hk=>by cases hk; omega)
    clear cx5 bx5 rx5 hbr5 cx6 hg6 hf5 hcc fx5
    go_wp2
    go_roundw
    case rel=>exact ⟨j + 1,by omega,by go_num,hbr6,bx6,rx6,cx6'⟩
    case measure=>simp [intOf]; omega
   ·have cx6' : Blk w5 (w.heap.size + 1 + 1) #[.int .i64 (((H.m.fs.take (j + 1)).countP (fun f=>decide (f.r = 0)):Nat):Int),.int .i64 0] 77:=by
     have e:(H.m.fs.take (j + 1)).countP (fun f=>decide (f.r = 0)) = C:=by rw [hct.out]; simp [hr]
     rw [e]; exact cx5
    clear hct hcc fx5
    go_wp2
    go_roundw
    case rel=>exact ⟨j + 1,by omega,by go_num,hbr5,bx5,rx5,cx6'⟩
    case measure=>simp [intOf]; omega
  ·have hji:¬ (j:Int) < (H.m.fs.length:Int):=by omega
   have cx2:Blk wr (w.heap.size + 1 + 1) #[.int .i64 (freeFr H.m.fs:Int),.int .i64 (((H.sl.take 0).countP fun f=>decide (f = 0):Nat):Int)] 77:=by
    rw [List.take_of_length_le (by omega)] at cx
    exact cx
   clear cx
   have hc:=bx.cell
   unfold mhC at hc
   go_wp2
   go_loopw [27] (fun s27 wr => ∃ j:Nat,j ≤ H.sl.length ∧ s27 = .int .i64 j ∧ Below w.heap.size w wr ∧ Blk wr (w.heap.size + 1) #[.int .i64 0,.int .i64 0] 77 ∧ Blk wr (w.heap.size + 1 + 1) #[.int .i64 (freeFr H.m.fs:Int),.int .i64 (((H.sl.take j).countP fun f=>decide (f = 0):Nat):Int)] 77) (fun s27 _=>H.sl.length - (intOf s27).toNat)
   case atStart=>exact ⟨0,Nat.zero_le _,rfl,hbr,rx,cx2⟩
   case round=>
    clear hbr bx rx cx2 hc hR hji
    obtain ⟨j,hj,rfl,hbr,rx,cx⟩:=hrel
    have hR:=(hh.out.below hbr).sl
    by_cases hjl:j < H.sl.length
    ·have hji:(j:Int) < (H.sl.length:Int):=by omega
     obtain ⟨bl,ol,hal,hcj⟩:=hR.rd j (inV H.sl[j]) (by rw [List.getElem?_map,List.getElem?_eq_getElem hjl]; rfl)
     unfold inV at hcj
     have hct:Hid ((H.sl.take (j + 1)).countP (fun f=>decide (f = 0)) = (H.sl.take j).countP (fun f=>decide (f = 0)) + if decide (H.sl[j] = 0) = true then 1 else 0):=Lib.hid (countP_take _ _ _ hjl)
     have hcl:(H.sl.take j).countP (fun f=>decide (f = 0)) ≤ j:=Nat.le_trans List.countP_le_length (by rw [List.length_take]; omega)
     generalize H.sl[j] = F at *
     generalize (H.sl.take j).countP (fun f=>decide (f = 0)) = C at *
     rw [hal]
     have hcc:=cx.cell
     by_cases hr:F = 0
     ·rw [hr] at hcj
      have hct' : Hid ((H.sl.take (j + 1)).countP (fun f=>decide (f = 0)) = C + 1):=Lib.hid (by rw [hct.out]; simp [hr])
      clear hct hr
      go_wp2_with (refine wpList_stv rfl _ _ _ rfl (w.heap.size + 1 + 1) 1 _ [.int .i64 ((C:Int) + 1)] rfl rfl rfl _ _ cx (by show 1 + 1 ≤ 2; decide) int1_size (fun u hu=>by cases List.mem_singleton.1 hu; rfl) ?_)
      intro w6 cx6 hg6
      have cx6' : Blk w6 (w.heap.size + 1 + 1) #[.int .i64 (freeFr H.m.fs:Int),.int .i64 (((H.sl.take (j + 1)).countP (fun f=>decide (f = 0)):Nat):Int)] 77:=by rw [hct'.out]; exact cx6
      have rx6:=rx.grown hg6 (fun e=>by have:=Option.some.inj e; omega)
      have hbr6:=hbr.grown hg6 hbr.size (fun k hk=>by cases hk; omega)
      clear cx rx hbr cx6 hg6 hcc hR hcj
      go_wp2
      go_roundw
      case rel=>exact ⟨j + 1,by omega,by go_num,hbr6,rx6,cx6'⟩
      case measure=>simp [intOf]; omega
     ·have cx6' : Blk wr (w.heap.size + 1 + 1) #[.int .i64 (freeFr H.m.fs:Int),.int .i64 (((H.sl.take (j + 1)).countP (fun f=>decide (f = 0)):Nat):Int)] 77:=by
       have e:(H.sl.take (j + 1)).countP (fun f=>decide (f = 0)) = C:=by rw [hct.out]; simp [hr]
       rw [e]; exact cx
      clear hct hcc hR
      go_wp2
      go_roundw
      case rel=>exact ⟨j + 1,by omega,by go_num,hbr,rx,cx6'⟩
      case measure=>simp [intOf]; omega
    ·have hji:¬ (j:Int) < (H.sl.length:Int):=by omega
     have cx2:Blk wr (w.heap.size + 1 + 1) #[.int .i64 (freeFr H.m.fs:Int),.int .i64 (freeSl H.sl:Int)] 77:=by
      rw [List.take_of_length_le (by omega)] at cx
      exact cx
     clear cx hR
     go_wp2_with (first | (refine wpList_ldg _ _ rfl (w.heap.size + 1 + 1) 0 rfl rfl _ cx2.rd _ Try.underlying77 rfl ii_size ?_) | (refine wpList_stw rfl _ _ _ rfl (w.heap.size + 1) #[.int .i64 (freeFr H.m.fs:Int),.int .i64 (freeSl H.sl:Int)] rfl rfl _ _ rx rfl ii_size (ii_one _ _) ?_))
     intro we rxe hge
     have hbre:=hbr.grown hge hbr.size (fun k hk=>by cases hk; omega)
     go_wp2
     refine bodyPost_ret (v:=.agg #[.int .i64 (freeFr H.m.fs:Int),.int .i64 (freeSl H.sl:Int)]) (results_c Try.results23 _ _ (w.heap.size + 1) _ _ _ rfl rxe Try.underlying77 rfl ii_size) rfl ?_
     exact ⟨rfl,hbre⟩
def clN (x:Int) (m:Nat):Nat:=(max (min x m) 0).toNat
theorem clN_le (x:Int) (m:Nat):clN x m ≤ m:=by unfold clN; omega
theorem clN_int (x:Int) (m:Nat):((clN x m:Nat):Int) = max (min x m) 0:=by unfold clN; omega
def BuildR (f s b:Int) (l:List UInt8) (w:World) (r:Ending) (w' : World):Prop:=∃ H:MH,r = .returned (.agg (mhC H)) ∧ MaO w' w.heap.size H ∧ Below w.heap.size w w' ∧ Rt H.ma ∧ Co H.ma ∧ (∀ p ∈ H.sp,∀ n g,onA p.ar n = some g → g.fi < H.fi.length) ∧
 H.m.fs.length = clN f 40 ∧ H.dk.blocks.length = clN b 80 ∧ 1 ≤ H.sp.length ∧ (l = [] → H.ma = newMa (clN f 40) (clN s 60) (clN b 80))
theorem rbuild_any (fr sl bl:Int) (al:Option Addr) (cl:Nat) (l:List UInt8) (w:World) (hr:SlR w al cl l.length (l.map byV)) :
  Calls Try.prog 9 #[.int .i64 fr,.int .i64 sl,.int .i64 bl,.slice al l.length cl] w (BuildR fr sl bl l w):=by
 have hra:Hid (∀ a,al = some a → l.map byV ≠ [] → a.block < w.heap.size):=Lib.hid fun a ha hl=>by
  obtain ⟨u,hu⟩:∃ u,(l.map byV)[0]? = some u:=⟨_,List.getElem?_eq_getElem (List.length_pos_iff.2 hl)⟩
  obtain ⟨b',o',e,hc⟩:=hr.rd 0 u hu
  rw [ha] at e
  cases e
  exact cell_lt hc
 go_enter Try.func9,Try.ntmps9
 go_upto_region 2 with (fail)
 refine abs2 (fun W=>Code.wp _ _ _ _ W) fun w1 hb1 bx1 mx1 hs1 => ?_
 have hr1:=hr.below hb1
 have mx1:Blk w1 (w.heap.size + 1) (mkC ⟨al,cl,l,noH,none,0,[]⟩) 89:=mx1
 have bx1:Blk w1 w.heap.size (mhC noH) 40:=bx1
 clear hr
 go_upto_region 3 with (fail)
 have e0:(if (if 40 < fr then (40:Int) else fr) < 0 then 0 else if 40 < fr then 40 else fr) = ((clN fr 40:Nat):Int):=by
  rw [clN_int]; split <;> split <;> omega
 have e1:(if (if 60 < sl then (60:Int) else sl) < 0 then 0 else if 60 < sl then 60 else sl) = ((clN sl 60:Nat):Int):=by
  rw [clN_int]; split <;> split <;> omega
 have e2:(if (if 80 < bl then (80:Int) else bl) < 0 then 0 else if 80 < bl then 80 else bl) = ((clN bl 80:Nat):Int):=by
  rw [clN_int]; split <;> split <;> omega
 rw [e0,e1,e2]
 clear e0 e1 e2
 generalize (if 40 < fr then (40:Int) else fr) = z0
 generalize (if 60 < sl then (60:Int) else sl) = z1
 generalize (if 80 < bl then (80:Int) else bl) = z2
 obtain ⟨f,hf⟩:∃ f,clN fr 40 = f:=⟨_,rfl⟩
 obtain ⟨s,hs⟩:∃ s,clN sl 60 = s:=⟨_,rfl⟩
 obtain ⟨ct,hct⟩:∃ ct,clN bl 80 = ct:=⟨_,rfl⟩
 have hf40:f ≤ 40:=by rw [← hf]; exact clN_le _ _
 have hs60:s ≤ 60:=by rw [← hs]; exact clN_le _ _
 have hc80:ct ≤ 80:=by rw [← hct]; exact clN_le _ _
 have hcl:=Lib.hid (And.intro hf (And.intro hs hct))
 rw [hf,hs,hct]
 clear hf hs hct
 have hb1z:w.heap.size + 2 ≤ w1.heap.size:=mx1.lt
 have hmkF:∀ W:World,(Instr.makeSlice 25 (.int .i64 (f:Int)) (.int .i64 (f:Int))).run Try.prog W = .ok (.slice (some ⟨W.heap.size,0,none⟩) f f) (W.alloc (.cells (madeCells (frC fr0) (f * 13)) 59)):=
  run_mk 25 59 _ 13 40 Try.underlying25 frame_info .i64 .i64 f (by omega) (by omega)
 have hmkS:∀ W:World,(Instr.makeSlice 29 (.int .i64 (s:Int)) (.int .i64 (s:Int))).run Try.prog W = .ok (.slice (some ⟨W.heap.size,0,none⟩) s s) (W.alloc (.cells (madeCells #[.int .i64 0] (s * 1)) 3)):=
  run_mk 29 3 _ 1 8 Try.underlying29 int_info .i64 .i64 s (by omega) (by omega)
 have hmkW:∀ W:World,(Instr.makeSlice 30 (.int .i64 (s:Int)) (.int .i64 (s:Int))).run Try.prog W = .ok (.slice (some ⟨W.heap.size,0,none⟩) s s) (W.alloc (.cells (madeCells (pgC zPg) (s * 8)) 50)):=
  run_mk 30 50 _ 8 8 Try.underlying30 page_info .i64 .i64 s (by omega) (by omega)
 have hmkD:∀ W:World,(Instr.makeSlice 30 (.int .i64 (ct:Int)) (.int .i64 (ct:Int))).run Try.prog W = .ok (.slice (some ⟨W.heap.size,0,none⟩) ct ct) (W.alloc (.cells (madeCells (pgC zPg) (ct * 8)) 50)):=
  run_mk 30 50 _ 8 8 Try.underlying30 page_info .i64 .i64 ct (by omega) (by omega)
 have hb2:=Lib.hid hb1
 clear hb1
 refine wp_growPQ 17 [_,_,.r 2 ((fixR fun _=>True)),.r 3 ((fixR fun _=>True)),_,.r 5 ((fixR fun _=>True)),_,.r 7 ((fixR fun _=>True)),.r 8 ((fixR fun _=>True)),_,.r 10 ((fixR fun _=>True)),.r 11 ((fixR fun _=>True)),_,.v (.agg #[.slice none 0 0,.int .i64 (ct:Int)]),.r 14 ((fixR fun _=>True)),_,_] (JM w1 w1.heap.size f s ct (frC fr0) #[.int .i64 0] (pgC zPg)) JM_st (fun y=>JM_0 y) (Qk JM_st rfl (Qk JM_st rfl (all_cons ?_ (all_cons ?_ (Qk JM_st rfl (all_cons ?_ (Qk JM_st rfl (all_cons ?_ (all_cons ?_ (Qk JM_st rfl (all_cons ?_ (all_cons ?_ (Qk JM_st rfl (all_cons ?_ (all_cons ?_ (Qk JM_st rfl (Qf JM_st (w.heap.size + 1) 1 rfl rfl (all_nil) (fun _ _ _ _ h=>JM_up (by decide) h)) (fun _ _ _ _ h=>JM_up (by decide) h)))) (fun _ _ _ _ h=>JM_up (by decide) h)))) (fun _ _ _ _ h=>JM_up (by decide) h)))) (fun _ _ _ _ h=>JM_up (by decide) h))) (fun _ _ _ _ h=>JM_up (by decide) h)))) (fun _ _ _ _ h=>JM_up (by decide) h)) (fun _ _ _ _ h=>JM_up (by decide) h)) (fun _=>rfl) rfl ?_
 ·intro ρ y W L hw hn hLi hLd hb hd; have E32:=hw 32 1 rfl; have h1:y 1 = _:=hd 1 rfl
  refine asked_runQ (.slice (some ⟨W.heap.size,0,none⟩) f f) (want_free rfl) ?_ (JM_2 hLi (Nat.le_refl _) hb) trivial
  simp [execOp,go_sem,E32,h1,hmkF]
 ·intro ρ y W L hw hn hLi hLd hb hd; have E33:=hw 33 2 rfl; have h2:=hd 2 rfl
  obtain ⟨g,e2,_,_⟩:=hb.k2 (hLd 2 rfl)
  refine asked_runQ (.agg #[y 2,.int .i64 0]) (want_free rfl) ?_ (JM_3 hLi (hLd 2 rfl) hb) trivial
  rw [e2] at E33 ⊢
  simp [execOp,go_sem,E33]
 ·intro ρ y W L hw hn hLi hLd hb hd; have E35:=hw 35 4 rfl; have h4:y 4 = _:=hd 4 rfl
  refine asked_runQ (.slice (some ⟨W.heap.size,0,none⟩) s s) (want_free rfl) ?_ (JM_5 hLi (Nat.le_refl _) hb) trivial
  simp [execOp,go_sem,E35,h4,hmkS]
 ·intro ρ y W L hw hn hLi hLd hb hd; have E37:=hw 37 6 rfl; have h6:y 6 = _:=hd 6 rfl
  refine asked_runQ (.slice (some ⟨W.heap.size,0,none⟩) s s) (want_free rfl) ?_ (JM_7 hLi (Nat.le_refl _) hb) trivial
  simp [execOp,go_sem,E37,h6,hmkW]
 ·intro ρ y W L hw hn hLi hLd hb hd; have E38:=hw 38 7 rfl; have h7:=hd 7 rfl
  obtain ⟨g,e2,_,_⟩:=hb.k7 (hLd 7 rfl)
  refine asked_runQ (.agg #[y 7,.slice none 0 0]) (want_free rfl) ?_ (JM_8 hLi (hLd 7 rfl) hb) trivial
  rw [e2] at E38 ⊢
  simp [execOp,go_sem,E38]
 ·intro ρ y W L hw hn hLi hLd hb hd; have E40:=hw 40 9 rfl; have h9:y 9 = _:=hd 9 rfl
  refine asked_runQ (.slice (some ⟨W.heap.size,0,none⟩) ct ct) (want_free rfl) ?_ (JM_10 hLi (Nat.le_refl _) hb) trivial
  simp [execOp,go_sem,E40,h9,hmkD]
 ·intro ρ y W L hw hn hLi hLd hb hd; have E41:=hw 41 10 rfl; have h10:=hd 10 rfl
  obtain ⟨g,e2,_,_⟩:=hb.k10 (hLd 10 rfl)
  refine asked_runQ (.agg #[y 10,.slice none 0 0]) (want_free rfl) ?_ (JM_11 hLi (hLd 10 rfl) hb) trivial
  rw [e2] at E41 ⊢
  simp [execOp,go_sem,E41]
 ·intro ρ y W L hw hn hLi hLd hb hd
  refine askQ JM_st (fun _ _ h=>JM_up (by decide) h) hb ?_
  have E43:=hw 43 12 rfl
  have h12:y 12 = _:=hd 12 rfl
  refine asked_val (.agg #[.slice none 0 0,.int .i64 (ct:Int)]) (want_free rfl) (by simp [execOp,go_sem,E43,h12]) rfl
 ·intro ρ y W L hw hn hLi hLd hb hd; have E34:=hw 34 3 rfl; have h3:=hd 3 rfl; have E36:=hw 36 5 rfl; have h5:=hd 5 rfl; have E39:=hw 39 8 rfl; have h8:=hd 8 rfl; have E42:=hw 42 11 rfl; have h11:=hd 11 rfl
  have E44:=hw 44 13 rfl
  have h13:y 13 = _:=hd 13 rfl
  obtain ⟨l2,e3⟩:=hb.k3 (hLd 3 rfl)
  obtain ⟨l7,e8⟩:=hb.k8 (hLd 8 rfl)
  obtain ⟨l10,e11⟩:=hb.k11 (hLd 11 rfl)
  obtain ⟨g2,e2,_,_⟩:=hb.k2 l2
  obtain ⟨g5,e5,_,_⟩:=hb.k5 (hLd 5 rfl)
  obtain ⟨g7,e7,_,_⟩:=hb.k7 l7
  obtain ⟨g10,e10,_,_⟩:=hb.k10 l10
  refine asked_runQ (.agg #[y 2,.int .i64 0,y 5,y 7,.slice none 0 0,y 10,.slice none 0 0,.slice none 0 0,.int .i64 ct,.slice none 0 0,.slice none 0 0]) (want_free rfl) ?_ (JM_14 (hLd 3 rfl) (hLd 5 rfl) (hLd 8 rfl) (hLd 11 rfl) hb) trivial
  rw [e3,e2] at E34
  rw [e5] at E36
  rw [e8,e7] at E39
  rw [e11,e10] at E42
  rw [e2,e5,e7,e10]
  simp [execOp,go_sem,E34,E36,E39,E42,E44,h13]
 intro y W3 hbW3 hRW3
 have hy2:((fixR fun _=>True)).r (y 2) W3:=hRW3 2 (by decide)
 have hy3:((fixR fun _=>True)).r (y 3) W3:=hRW3 3 (by decide)
 have hy5:((fixR fun _=>True)).r (y 5) W3:=hRW3 5 (by decide)
 have hy7:((fixR fun _=>True)).r (y 7) W3:=hRW3 7 (by decide)
 have hy8:((fixR fun _=>True)).r (y 8) W3:=hRW3 8 (by decide)
 have hy10:((fixR fun _=>True)).r (y 10) W3:=hRW3 10 (by decide)
 have hy11:((fixR fun _=>True)).r (y 11) W3:=hRW3 11 (by decide)
 have hy14:((fixR fun _=>True)).r (y 14) W3:=hRW3 14 (by decide)
 clear hRW3
 obtain ⟨⟨l3,l5,l8,l11⟩,e14⟩:=hbW3.k14 rfl
 obtain ⟨gf,e2,bf,kf⟩:=hbW3.k2 rfl
 obtain ⟨gs,e5,bs,ks⟩:=hbW3.k5 rfl
 obtain ⟨gw,e7,bw,kw⟩:=hbW3.k7 rfl
 obtain ⟨gd,e10,bd,kd⟩:=hbW3.k10 rfl
 have hwd:gw ≠ gd:=made_ne kw kd (by rw [← e7,← e10]; exact hbW3.ne rfl rfl)
 have mx3:=mx1.ext hbW3.be
 have bx3:=bx1.ext hbW3.be
 have hr3:=hr1.below hbW3.be
 have hbe3:=Lib.hid (below_next hb2.out hbW3.be)
 rw [e14,e2,e5,e7,e10]
 clear hy2 hy3 hy5 hy7 hy8 hy10 hy11 hy14 e14 e2 e5 e7 e10 hbW3 l3 l5 l8 l11 hmkF hmkS hmkW hmkD mx1 bx1 hr1 hb2
 go_wp2_with (refine wpList_stv rfl _ _ _ rfl (w.heap.size + 1) 1 _ [.slice (some ⟨gf,0,none⟩) f f,.int .i64 0,.slice (some ⟨gs,0,none⟩) s s,.slice (some ⟨gw,0,none⟩) s s,.slice none 0 0,.slice (some ⟨gd,0,none⟩) ct ct,.slice none 0 0,.slice none 0 0,.int .i64 ct,.slice none 0 0,.slice none 0 0] rfl rfl rfl _ _ mx3 (by show 1 + 11 ≤ 13; omega) (by kernel_rfl) (by simp [Value.oneCell']) ?_)
 intro w4 hb4 hg4
 have hk4:Blk w4 (w.heap.size + 1) (mkC ⟨al,cl,l,stH gf gs gw gd f s ct,none,0,[]⟩) 89:=by
  have e:mkC ⟨al,cl,l,stH gf gs gw gd f s ct,none,0,[]⟩ = putAt (mkC ⟨al,cl,l,noH,none,0,[]⟩) 1 [.slice (some ⟨gf,0,none⟩) f f,.int .i64 0,.slice (some ⟨gs,0,none⟩) s s,.slice (some ⟨gw,0,none⟩) s s,.slice none 0 0,.slice (some ⟨gd,0,none⟩) ct ct,.slice none 0 0,.slice none 0 0,.int .i64 ct,.slice none 0 0,.slice none 0 0]:=by
   unfold mkC stH noH
   dsimp only
   rw [List.length_replicate,List.length_replicate,List.length_replicate,List.length_replicate]
   kernel_rfl
  rw [e]; exact hb4
 have hm4:MkO w4 (w.heap.size + 1) (w.heap.size + 1) ⟨al,cl,l,stH gf gs gw gd f s ct,none,0,[]⟩:=
  start_O (hr3.keep (B:=w.heap.size + 1) (fun a ha hl=>Nat.lt_succ_of_lt (hra.out a ha hl)) (Nat.le_of_lt mx3.lt) hg4 (Nat.le_refl _)) (fun a ha hl=>Nat.lt_succ_of_lt (hra.out a ha hl)) (Nat.le_refl _) hk4 hf40 hs60 hc80 (by omega) (by omega) (by omega) (by omega) hwd (zf:=frC fr0) (zs:=#[.int .i64 0]) (zp:=pgC zPg) rfl rfl rfl
   (kf.grown hg4 (fun e=>by have:=Option.some.inj e; omega)) (ks.grown hg4 (fun e=>by have:=Option.some.inj e; omega)) (kw.grown hg4 (fun e=>by have:=Option.some.inj e; omega)) (kd.grown hg4 (fun e=>by have:=Option.some.inj e; omega))
 have bx4:Blk w4 w.heap.size (mhC noH) 40:=bx3.grown hg4 (fun e=>by have:=Option.some.inj e; omega)
 have hbe4:Hid (Below w.heap.size w w4):=Lib.hid (hbe3.out.grown hg4 (Nat.le_trans (by omega) (Nat.le_of_lt mx3.lt)) (fun k hk=>by cases hk; omega))
 have hszl4:w.heap.size + 2 ≤ w4.heap.size:=hk4.lt
 clear kf ks kw kd mx3 bx3 hr3 hbe3 hb4 hg4 hk4 bf bs bw bd hwd hra hb1z
 generalize hb' : w.heap.size + 1 = b at hm4 hszl4 ⊢
 have hbb:=Lib.hid hb'
 clear hb'
 obtain ⟨S3,hS3⟩:∃ S3,S3 = (⟨al,cl,l,stH gf gs gw gd f s ct,none,0,[]⟩:MW):=⟨_,rfl⟩
 have hS3':=Lib.hid hS3
 rw [← hS3] at hm4
 have hc:=hm4.blk.cell
 unfold mkC at hc
 have hfl:S3.H.m.fs.length = f:=by rw [hS3]; exact List.length_replicate
 rw [hfl] at hc
 clear hfl
 have hm4q:MkO w4 b b (S3.frs (frQ f 0)):=by
  have e:S3.frs (frQ f 0) = S3:=by rw [hS3]; rfl
  rw [e]; exact hm4
 have hs4q:MS w4 b S3 w4 (S3.frs (frQ f 0)):=(MS.refl w4 b S3).same rfl
 have hnb4:Hid (¬ kbM b S3 w.heap.size):=Lib.hid (fun hk=>by
  have h1:=(hm4.kb_own hk).1
  have h2:=hbb.out
  omega)
 have hto:Hid (∀ w' S',MS w4 b S3 w' S' → Below b w4 w'):=Lib.hid (fun w' S' h=>MS.to hm4 h (Nat.le_refl b))
 clear hS3 hm4
 have bx4':=Lib.hid bx4
 clear bx4
 go_upto_region 5 with (fail)
 go_loopw [55] (fun k wr => ∃ q:Nat,q ≤ f ∧ k = .int .i64 q ∧ MkO wr b b (S3.frs (frQ f q)) ∧ MS w4 b S3 wr (S3.frs (frQ f q))) (fun k _=>f - (intOf k).toNat)
 case atStart=>exact ⟨0,Nat.zero_le _,rfl,hm4q,hs4q⟩
 case round=>
  clear hm4q hs4q
  obtain ⟨q,hq,rfl,hm,hs⟩:=hrel
  by_cases hqf:q < f
  ·have hqi:(q:Int) < (f:Int):=by omega
   have hlq:(frQ f q).length = f:=frQ_len hq
   have hc:=hm.blk.cell
   unfold mkC at hc
   dsimp only [MW.frs] at hc
   rw [hlq] at hc
   obtain ⟨g,off,cap,cur,hv,hgB,hg,hgs,hgc,hgw⟩:=hm.ma.fr.put frL_len (by decide) q (by show q < (frQ f q).length; omega)
   have haf:S3.H.af = some ⟨g,off,none⟩:=(Value.slice.inj hv).1
   have hcur:Hid (∀ j u,(frL fr0)[j]? = some u → cur[off + q * 13 + j]? = some u):=Lib.hid fun j u hj=>by
    have e:(S3.frs (frQ f q)).H.m.fs[q]'(by show q < (frQ f q).length; omega) = fr0:=frQ_get hqf (by omega)
    have:=hgc j u (by rw [e]; exact hj)
    rw [hg.cell] at this
    exact this
   rw [haf] at hc
   have hgw':=Lib.hid hgw
   have hlq':=Lib.hid hlq
   have haf':=Lib.hid haf
   clear hv hgc hgw hlq haf
   go_wp2_with (refine wpList_stv rfl _ _ _ rfl g (off + q * 13 + 11) _ [.int .i64 (-1)] rfl rfl rfl _ _ hg (by show off + q * 13 + 11 + 1 ≤ cur.size; omega) (by kernel_rfl) (fun u hu=>by cases List.mem_singleton.1 hu; rfl) ?_)
   intro w5 hb5 hg5
   rw [frQ_put hgs hcur.out] at hb5
   have ho:=hgw'.out _ _ hb5
   have hset:(S3.frs (frQ f q)).H.m.fs.set q frZ = frQ f (q + 1):=frQ_set hqf
   have hlen:(frQ f (q + 1)).length = (frQ f q).length:=by rw [frQ_len (by omega),frQ_len hq]
   rw [hset] at ho
   have hm5:MkO w5 b b (S3.frs (frQ f (q + 1))):=hm.putF hg hgB hg5 (fs:=frQ f (q + 1)) hlen (by rw [hlen]; exact ho)
   have hs5:MS w4 b S3 w5 (S3.frs (frQ f (q + 1))):=hs.put hg5 (.inr (by show some g ∈ klM S3; unfold klM; rw [haf'.out]; exact List.mem_cons_self)) (fun x hx => .inl hx)
   clear hm hs hg hgs hb5 hg5 hc ho hset hlen
   go_wp2
   go_roundw
   case rel=>exact ⟨q + 1,by omega,by go_num,hm5,hs5⟩
   case measure=>simp [intOf]; omega
  ·have hqi:¬ (q:Int) < (f:Int):=by omega
   have hqe:f = q:=by omega
   subst hqe
   rw [frQ_end] at hm hs
   go_wp2_with fail
   refine (rpick_any _ 3 b b _ hm (by omega)).mono ?_
   rintro r w5 ⟨N,a5,c5,l5,rfl,hm5,hs5,hN,hN0⟩
   have hs5:=hs.trans hs5
   have hl5:Hid (l = [] → N = 0 ∧ l5 = []):=Lib.hid fun e=>hN0 (by show S3.l = []; rw [hS3'.out]; exact e)
   have hF5:Fil f s ct S3.H.asl ((S3.frs (List.replicate f frZ)).lst a5 c5 l5).H.fi (List.replicate ct zPg) [] ((S3.frs (List.replicate f frZ)).lst a5 c5 l5):=by
    rw [hS3'.out]
    exact ⟨rfl,rfl,rfl,rfl,rfl,rfl,rfl,rfl,rfl,rfl⟩
   have hfi5:((S3.frs (List.replicate f frZ)).lst a5 c5 l5).H.fi = []:=by rw [hS3'.out]; rfl
   have hls5:Hid (l = [] → ((S3.frs (List.replicate f frZ)).lst a5 c5 l5).l = []):=Lib.hid fun e=>(hl5.out e).2
   obtain ⟨N,rfl⟩:=Int.eq_ofNat_of_zero_le hN.1
   have hN2:N ≤ 2:=by omega
   clear hm hs hN hN0 hqf hqi hq
   generalize (S3.frs (List.replicate f frZ)).lst a5 c5 l5 = S5 at hm5 hs5 hF5 hfi5 hls5
   go_upto_region 10 with (fail)
   go_loopw [70] (fun k wr => ∃ (q:Nat) (S:MW) (bk:List Page) (qu:List (Int × Page)),q ≤ N ∧ k = .int .i64 q ∧ MkO wr b b S ∧ MS w4 b S3 wr S ∧ Hid (Fil f s ct S3.H.asl S.H.fi bk qu S ∧ Fb ct bk qu (S.H.fi.map PF.fi) [] ∧ S.H.fi.length = q ∧ (q = 0 → bk = List.replicate ct zPg ∧ qu = [] ∧ (l = [] → S.l = [])))) (fun k _=>N - (intOf k).toNat)
   case atStart=>exact ⟨0,S5,_,_,Nat.zero_le _,rfl,hm5,hs5,Lib.hid ⟨hF5,by rw [hfi5]; exact Fb.start hc80,by rw [hfi5]; rfl,fun _=>⟨rfl,rfl,hls5.out⟩⟩⟩
   case round=>
    clear hm5 hs5 hF5 hfi5 hls5
    obtain ⟨q,S,bk,qu,hq,rfl,hm,hs,hI⟩:=hrel
    obtain ⟨fi0,hfi0⟩:∃ fi0,S.H.fi = fi0:=⟨_,rfl⟩
    rw [hfi0] at hI
    clear hfi0
    have hl0q:Hid (fi0.length = q):=Lib.hid hI.out.2.2.1
    have hl0:Hid (fi0.length ≤ 2):=Lib.hid (by have:=hI.out.2.2.1; omega)
    by_cases hqN:q < N
    ·have hqi:(q:Int) < (N:Int):=by omega
     go_wp2_with fail
     refine (rpick_any _ 40 b b _ hm (by omega)).mono ?_
     rintro r w6 ⟨x,a6,c6,l6,rfl,hm6,hs6,hx,_⟩
     have hs6:=hs.trans hs6
     have hF6:Hid (Fil f s ct S3.H.asl fi0 bk qu (S.lst a6 c6 l6)):=Lib.hid (hI.out.1.lst _ _ _)
     have hx1:0 ≤ x ∧ x < 40:=by omega
     obtain ⟨C,hC⟩:∃ C:Nat,countS x = C:=⟨(countS x).toNat,by unfold countS; split <;> omega⟩
     have hC5:C ≤ 5:=by unfold countS at hC; split at hC <;> omega
     have hC':=Lib.hid hC
     clear hm hs hx hC
     generalize S.lst a6 c6 l6 = S6 at hm6 hs6 hF6
     go_wp2_with (refine wpList_stn rfl _ _ _ rfl (pfC ⟨x,none,[],0⟩) rfl rfl rfl file_size (pfC_one _) ?_)
     intro w7 hb7 fx7
     have hm7:=hm6.below hb7
     have hs67:=(MS.refl w6 b S6).below hb7
     have hnf:Hid (¬ kbM b S6 w6.heap.size):=Lib.hid (hm6.new (Nat.le_refl _))
     have hgB:b ≤ w6.heap.size:=hm6.bs
     have hgB':=Lib.hid hgB
     clear hm6 hb7
     generalize hg60:w6.heap.size = gf0 at hnf hgB fx7 ⊢
     have hg6:Hid (w6.heap.size ≤ gf0):=Lib.hid (Nat.le_of_eq hg60)
     clear hg60
     have hcf:=fx7.cell
     unfold pfC at hcf
     go_wp2_with fail
     refine (rcount_any x _ (by omega)).mono ?_
     rintro r w8 ⟨rfl,rfl⟩
     rw [hC'.out]
     clear hcf
     have hnp6:∀ p ∈ fi0,True:=fun _ _=>trivial
     clear hnp6
     go_upto_region 13 with (fail)
     go_loopw [78] (fun k wr => ∃ (i:Nat) (S:MW) (bk:List Page) (qu:List (Int × Page)) (xs:List Int) (xa:Option Addr) (xc:Nat),i ≤ C ∧ k = .int .i64 i ∧ MkO wr b b S ∧ MS w6 b S6 wr S ∧ Hid (¬ kbM b S gf0) ∧ Hid (Fil f s ct S3.H.asl fi0 bk qu S ∧ Fb ct bk qu (fi0.map PF.fi) xs ∧ xs.length = i) ∧ Blk wr gf0 (pfC ⟨x,xa,xs,xc⟩) 71 ∧
      Hid (Own wr b 3 1 (pfV ⟨x,xa,xs,xc⟩) xs.length (xs.map inV) ∧ ∀ g,oB xa = some g → w6.heap.size ≤ g ∧ oB S3.H.asl ≠ some g ∧ ∀ p ∈ fi0,oB p.a ≠ some g)) (fun k _=>C - (intOf k).toNat)
     case atStart=>exact ⟨0,S6,bk,qu,[],none,0,Nat.zero_le _,rfl,hm7,hs67,hnf,Lib.hid ⟨hF6.out,hI.out.2.1,rfl⟩,fx7,Lib.hid ⟨Own.nil _ _ _ _,fun g hg=>(by cases hg)⟩⟩
     case round=>
      clear hm7 fx7 hI hF6 hs67 hnf
      obtain ⟨i,S,bk,qu,xs,xa,xc,hi,rfl,hm,hs,hkf',hI,fx,ho⟩:=hrel
      by_cases hiC:i < C
      ·have hii:(i:Int) < (C:Int):=by omega
       go_upto_region 16 with (fail)
       have hkx:∀ g,(pfV ⟨x,xa,xs,xc⟩).ownBlock = some g → ¬ kbM b S g:=fun g hg=>by
        obtain ⟨cs,hk⟩:=own_blk ho.out.1 g hg
        refine hm.kb_int hk ?_
        rw [hI.out.1.asl]
        exact (ho.out.2 g (by unfold pfV at hg; rw [oB_eq] at hg; exact hg)).2.1
       have hkx':=Lib.hid hkx
       clear hkx
       go_cut [14] (fun s14 wx => ∃ (n:Nat) (a:Option Addr) (c:Nat) (l:List UInt8),s14 = .int .i64 n ∧ n < 256 ∧ MkO wx b b (S.lst a c l) ∧ MS wr b S wx (S.lst a c l) ∧ Blk wx gf0 (pfC ⟨x,xa,xs,xc⟩) 71 ∧ Hid (Own wx b 3 1 (pfV ⟨x,xa,xs,xc⟩) xs.length (xs.map inV)))
       case first=>
        go_wp2_with fail
        all_goals
         refine (rpick_any S _ b b _ hm (by omega)).mono ?_
         rintro r w8 ⟨n,a8,c8,l8,rfl,hm8,hs8,hn,_⟩
         obtain ⟨n,rfl⟩:=Int.eq_ofNat_of_zero_le hn.1
         have hn256:(n:Int) < 256:=hn.2.1
         have fx8:=hs8.blkN fx hkf'.out
         have ho8:Hid (Own w8 b 3 1 (pfV ⟨x,xa,xs,xc⟩) xs.length (xs.map inV)):=Lib.hid (hs8.ownN ho.out.1 hkx'.out)
         clear hm fx hn
         go_wp2
         go_meet
         case rel=>exact ⟨n,a8,c8,l8,rfl,by omega,hm8,hs8,fx8,ho8⟩
       case rest=>
       obtain ⟨n,a8,c8,l8,rfl,hn256,hm8,hs8,fx8,ho8'⟩:=hcut
       have ho8:Hid (Own wc b 3 1 (pfV ⟨x,xa,xs,xc⟩) xs.length (xs.map inV) ∧ ∀ g,oB xa = some g → w6.heap.size ≤ g ∧ oB S3.H.asl ≠ some g ∧ ∀ p ∈ fi0,oB p.a ≠ some g):=Lib.hid ⟨ho8'.out,ho.out.2⟩
       clear ho8'
       have hF8:Hid (Fil f s ct S3.H.asl fi0 bk qu (S.lst a8 c8 l8) ∧ Fb ct bk qu (fi0.map PF.fi) xs ∧ xs.length = i):=Lib.hid ⟨hI.out.1.lst _ _ _,hI.out.2⟩
       have hs8:=hs.trans hs8
       have hkf8:Hid (¬ kbM b (S.lst a8 c8 l8) gf0):=hkf'
       have hkx8:Hid (∀ g,(pfV ⟨x,xa,xs,xc⟩).ownBlock = some g → ¬ kbM b (S.lst a8 c8 l8) g):=hkx'
       clear hm hs hI fx ho hkf' hkx'
       generalize S.lst a8 c8 l8 = S8 at hm8 hs8 hF8 hkf8 hkx8
       go_upto_region 17 with (fail)
       go_cut [109] (fun s109 wx => ∃ (β:Bool) (a:Option Addr) (c:Nat) (l:List UInt8),s109 = .bool β ∧ MkO wx b b (S8.lst a c l) ∧ MS wc b S8 wx (S8.lst a c l) ∧ Blk wx gf0 (pfC ⟨x,xa,xs,xc⟩) 71 ∧ Hid (Own wx b 3 1 (pfV ⟨x,xa,xs,xc⟩) xs.length (xs.map inV)) ∧ Hid (β = true → n < ct ∧ ¬ (n:Int) ∈ (fi0.map PF.fi).flatMap Fi.b ++ xs))
       case first=>
        have hgf8:gf0 < wc.heap.size:=fx8.lt
        have hl8:S8.H.fi.length ≤ 5:=by
         have e1:=hF8.out.1.fi
         have e2:=hl0.out
         rw [e1]; omega
        by_cases hnc:n < ct
        ·have hdn:(n:Int) < (ct:Int):=by omega
         cases hu:usedSt (stOf (S8.H.fi ++ [(⟨x,xa,xs,xc⟩:PF)]) 0) (n:Int) with
         | true=>
          refine wp_growPQ 25 [_,_,_,_,.r 4 ((fixR fun _=>True)),_,_,_,_,_,.v (.slice S8.H.ai S8.H.fi.length S8.H.ci),.r 11 ((fixR fun _=>True)),.v (.agg (pfC ⟨x,xa,xs,xc⟩)),.r 13 ((fixR fun _=>True)),.r 14 ((fixR fun _=>True)),.r 15 ((fixR fun _=>True)),_,.v (.bool true),_,_,_,_,_,_,.v (.bool false)] (jUs S8 b b wc gf0 ⟨x,xa,xs,xc⟩) jUs_st (fun y=>jUs_0 hm8 fx8 ho8.out.1 y) (Qk jUs_st rfl (Qk jUs_st rfl (Qb jUs_st (.bool true) (by simp [go_sem,hdn]) rfl rfl rfl rfl rfl (Qk jUs_st rfl (all_cons ?_ (Qk jUs_st rfl (Qk jUs_st rfl (Qf jUs_st b 1 rfl rfl (Qf jUs_st b 8 rfl rfl (Qf jUs_st b 8 rfl rfl (all_cons ?_ (all_cons ?_ (all_cons ?_ (all_cons ?_ (all_cons ?_ (all_cons ?_ (Qk jUs_st rfl (all_cons ?_ (Qk jUs_st rfl (Qk jUs_st rfl (Qk jUs_st rfl (Qk jUs_st rfl (Qk jUs_st rfl (Qk jUs_st rfl (Qk jUs_st rfl (all_nil) (fun _ _ _ _ h=>jUs_up (by decide) h)) (fun _ _ _ _ h=>jUs_up (by decide) h)) (fun _ _ _ _ h=>jUs_up (by decide) h)) (fun _ _ _ _ h=>jUs_up (by decide) h)) (fun _ _ _ _ h=>jUs_up (by decide) h)) (fun _ _ _ _ h=>jUs_up (by decide) h)) (fun _ _ _ _ h=>jUs_up (by decide) h))) (fun _ _ _ _ h=>jUs_up (by decide) h)))))))) (fun _ _ _ _ h=>jUs_up (by decide) h)) (fun _ _ _ _ h=>jUs_up (by decide) h)) (fun _ _ _ _ h=>jUs_up (by decide) h)) (fun _ _ _ _ h=>jUs_up (by decide) h)) (fun _ _ _ _ h=>jUs_up (by decide) h))) (fun _ _ _ _ h=>jUs_up (by decide) h)) (fun _ _ _ _ h=>jUs_up (by decide) h)) (fun _ _ _ _ h=>jUs_up (by decide) h)) (fun _ _ _ _ h=>jUs_up (by decide) h)) (fun _=>rfl) rfl ?_
          ·intro ρ y W L hw hn hLi hLd hb hd
           refine asked_runQ (.slice (some ⟨W.heap.size,0,none⟩) 0 0) (want_at 3 88 true true rfl rfl ((hw 88 3 rfl).trans (hd 3 rfl))) ?_ (jUs_4 hb) trivial
           simp [execOp,go_sem]
          ·intro ρ y W L hw hn hLi hLd hb hd
           refine askQ jUs_st (fun _ _ h=>jUs_up (by decide) h) hb ?_
           have E94:=hw 94 9 rfl
           have h9:y 9 = _:=hd 9 rfl
           obtain ⟨⟨a0,c0,l0,m1,m2⟩,m3⟩:=hb
           refine asked_val (.slice S8.H.ai S8.H.fi.length S8.H.ci) (want_at 3 88 true true rfl rfl ((hw 88 3 rfl).trans (hd 3 rfl))) (by simp [execOp,go_sem,E94,h9,m1.blk.cell,mkC,MW.lst]) rfl
          ·intro ρ y W L hw hn hLi hLd hb hd; have E89:=hw 89 4 rfl; have h4:=hd 4 rfl; have E95:=hw 95 10 rfl; have h10:y 10 = _:=hd 10 rfl
           obtain ⟨g,hg1,hg2⟩:=hb.2.2.2.1 (hLd 4 rfl) hLi
           have hsz:=hb.2.2.2.2.2.2.2.1
           obtain ⟨a0,c0,l0,m1,m2⟩:=hb.1
           have m3:FsR W S8.H.ai S8.H.ci S8.H.fi:=m1.ma.rd.st
           refine asked_appQ (want_at 3 88 true true rfl rfl ((hw 88 3 rfl).trans (hd 3 rfl))) (run_app0 _ _ _ rfl wc.heap.size 71 _ 2 32 Try.underlying34 file_info rfl (by decide) g (E89.trans hg1) hg2 S8.H.ai S8.H.fi.length S8.H.ci (S8.H.fi.flatMap pfL) (E95.trans h10) m3.nl m3.le (by rw [Pw.flat_len pfL 2 pfL_len]) m3.rd (by unfold maxLen; omega) (by omega) hsz) (fun v W1 h=>jUs_11 hb h.1 h.2) (fun _ _ _=>trivial)
          ·intro ρ y W L hw hn hLi hLd hb hd
           refine askQ jUs_st (fun _ _ h=>jUs_up (by decide) h) hb ?_
           have E11:ρ (.tmp 11) = .pointer (some ⟨gf0,0,none⟩):=(hn (.tmp 11) rfl).trans rfl
           have m3:=hb.2.1
           refine asked_val (.agg (pfC ⟨x,xa,xs,xc⟩)) (want_at 3 88 true true rfl rfl ((hw 88 3 rfl).trans (hd 3 rfl))) (run_load_blk rfl E11 m3 Try.underlying71 rfl file_size) rfl
          ·intro ρ y W L hw hn hLi hLd hb hd; have E97:=hw 97 12 rfl; have h12:y 12 = _:=hd 12 rfl
           have hsz:=hb.2.2.2.2.2.2.2.1
           refine asked_runQ (.slice (some ⟨W.heap.size,0,none⟩) 1 1) (want_at 3 88 true true rfl rfl ((hw 88 3 rfl).trans (hd 3 rfl))) ?_ (jUs_13 (W':=W.alloc (.cells (pfC ⟨x,xa,xs,xc⟩) 71)) hb ((Below.refl _ _).alloc (Nat.le_refl _) _) (own_box hsz _)) trivial
           simp [execOp,go_sem,E97.trans h12,pfC]
          ·intro ρ y W L hw hn hLi hLd hb hd; have E96:=hw 96 11 rfl; have h11:=hd 11 rfl; have E98:=hw 98 13 rfl; have h13:=hd 13 rfl
           have hsz:=hb.2.2.2.2.2.2.2.1
           have hv:=hb.2.2.2.2.1 (hLd 11 rfl) hLi
           obtain ⟨a,e,hx1,k1,k2,k3,k4⟩:=(hb.2.2.2.2.2.1 (hLd 13 rfl) hLi).rd
           refine asked_appQ (want_at 3 88 true true rfl rfl ((hw 88 3 rfl).trans (hd 3 rfl))) (run_app _ _ _ rfl wc.heap.size 71 _ 2 32 Try.underlying34 file_info rfl (by decide) (y 11) S8.H.fi.length _ E96 hv a 1 e (pfL ⟨x,xa,xs,xc⟩) (E98.trans hx1) k3 k1 rfl k4 (one_toList (pfC_one _)) (by unfold maxLen; omega) (by omega) hsz) (fun v W1 h=>jUs_14 hm8 hgf8 hb (hLd 11 rfl) hLi h.2.1 h.1) (fun _ _ _=>trivial)
          ·intro ρ y W L hw hn hLi hLd hb hd; have E99:=hw 99 14 rfl; have h14:=hd 14 rfl
           obtain ⟨a,c,e14,_⟩:=used_rd hb (hLd 14 rfl)
           refine asked_runQ (.agg #[y 14,.int .i64 0]) (want_at 3 88 true true rfl rfl ((hw 88 3 rfl).trans (hd 3 rfl))) ?_ (jUs_15 (hLd 14 rfl) hb) trivial
           rw [e14] at E99 ⊢
           simp [execOp,go_sem,E99]
          ·intro ρ y W L hw hn hLi hLd hb hd; have E100:=hw 100 15 rfl; have h15:=hd 15 rfl; have E101:=hw 101 16 rfl; have h16:y 16 = _:=hd 16 rfl
           have EF:∀ f,ρ (.func f) = .func (.func f) #[] #[]:=fun f=>hn (.func f) trivial
           obtain ⟨l14,e15⟩:=hb.2.2.2.2.2.2.2.2 (hLd 15 rfl)
           obtain ⟨a,c,e14,hFs⟩:=used_rd hb l14
           rw [e15,e14] at E100
           refine asked_callQ _ _ (want_at 3 88 true true rfl rfl ((hw 88 3 rfl).trans (hd 3 rfl))) (run_call rfl (EF _) Try.func30 (by kernel_rfl) (by kernel_rfl) (by simp only [List.map_toArray,List.map_cons,List.map_nil,E100,E101,h16,EF]; rfl)) ?_
           have hus:=sused_any (S8.H.fi ++ [⟨x,xa,xs,xc⟩]) 0 n a c W hFs
           unfold stC at hus
           rw [hu] at hus
           refine hus.mono ?_
           rintro r w1 ⟨hr1,hb1⟩
           exact ⟨_,hr1,jUs_up (by decide) (jUs_st _ _ _ _ hb1 hb),rfl⟩
          intro y W9 hbW9 hRW9
          have hy4:((fixR fun _=>True)).r (y 4) W9:=hRW9 4 (by decide)
          have hy11:((fixR fun _=>True)).r (y 11) W9:=hRW9 11 (by decide)
          have hy13:((fixR fun _=>True)).r (y 13) W9:=hRW9 13 (by decide)
          have hy14:((fixR fun _=>True)).r (y 14) W9:=hRW9 14 (by decide)
          have hy15:((fixR fun _=>True)).r (y 15) W9:=hRW9 15 (by decide)
          clear hRW9
          have hbJ:=hbW9.1
          obtain ⟨a9,c9,l9,hm9,hs9⟩:=hbJ
          have fx9:=hbW9.2.1
          have ho9:=Lib.hid hbW9.2.2.1
          clear hbW9 hm8 hs8 fx8 ho8
          go_wp2
          go_meet
          case rel=>exact ⟨false,a9,c9,l9,rfl,hm9,hs9,fx9,ho9,Lib.hid fun e=>(by cases e)⟩
         | false=>
          refine wp_growPQ 25 [_,_,_,_,.r 4 ((fixR fun _=>True)),_,_,_,_,_,.v (.slice S8.H.ai S8.H.fi.length S8.H.ci),.r 11 ((fixR fun _=>True)),.v (.agg (pfC ⟨x,xa,xs,xc⟩)),.r 13 ((fixR fun _=>True)),.r 14 ((fixR fun _=>True)),.r 15 ((fixR fun _=>True)),_,.v (.bool false),_,_,_,_,.r 22 ((fixR fun v => ∃ x:Int,v = .int .i64 x)),.r 23 ((fixR fun v => ∃ u,v = .bool u)),.r 24 ((fixR fun v => ∃ u,v = .bool u))] (jUs S8 b b wc gf0 ⟨x,xa,xs,xc⟩) jUs_st (fun y=>jUs_0 hm8 fx8 ho8.out.1 y) (Qk jUs_st rfl (Qk jUs_st rfl (Qb jUs_st (.bool true) (by simp [go_sem,hdn]) rfl rfl rfl rfl rfl (Qk jUs_st rfl (all_cons ?_ (Qk jUs_st rfl (Qk jUs_st rfl (Qf jUs_st b 1 rfl rfl (Qf jUs_st b 8 rfl rfl (Qf jUs_st b 8 rfl rfl (all_cons ?_ (all_cons ?_ (all_cons ?_ (all_cons ?_ (all_cons ?_ (all_cons ?_ (Qk jUs_st rfl (all_cons ?_ (Qk jUs_st rfl (Qk jUs_st rfl (Qk jUs_st rfl (Qk jUs_st rfl (all_cons ?_ (all_cons ?_ (all_cons ?_ (all_nil)))) (fun _ _ _ _ h=>jUs_up (by decide) h)) (fun _ _ _ _ h=>jUs_up (by decide) h)) (fun _ _ _ _ h=>jUs_up (by decide) h)) (fun _ _ _ _ h=>jUs_up (by decide) h))) (fun _ _ _ _ h=>jUs_up (by decide) h)))))))) (fun _ _ _ _ h=>jUs_up (by decide) h)) (fun _ _ _ _ h=>jUs_up (by decide) h)) (fun _ _ _ _ h=>jUs_up (by decide) h)) (fun _ _ _ _ h=>jUs_up (by decide) h)) (fun _ _ _ _ h=>jUs_up (by decide) h))) (fun _ _ _ _ h=>jUs_up (by decide) h)) (fun _ _ _ _ h=>jUs_up (by decide) h)) (fun _ _ _ _ h=>jUs_up (by decide) h)) (fun _ _ _ _ h=>jUs_up (by decide) h)) (fun _=>rfl) rfl ?_
          ·intro ρ y W L hw hn hLi hLd hb hd
           refine asked_runQ (.slice (some ⟨W.heap.size,0,none⟩) 0 0) (want_at 3 88 true true rfl rfl ((hw 88 3 rfl).trans (hd 3 rfl))) ?_ (jUs_4 hb) trivial
           simp [execOp,go_sem]
          ·intro ρ y W L hw hn hLi hLd hb hd
           refine askQ jUs_st (fun _ _ h=>jUs_up (by decide) h) hb ?_
           have E94:=hw 94 9 rfl
           have h9:y 9 = _:=hd 9 rfl
           obtain ⟨⟨a0,c0,l0,m1,m2⟩,m3⟩:=hb
           refine asked_val (.slice S8.H.ai S8.H.fi.length S8.H.ci) (want_at 3 88 true true rfl rfl ((hw 88 3 rfl).trans (hd 3 rfl))) (by simp [execOp,go_sem,E94,h9,m1.blk.cell,mkC,MW.lst]) rfl
          ·intro ρ y W L hw hn hLi hLd hb hd; have E89:=hw 89 4 rfl; have h4:=hd 4 rfl; have E95:=hw 95 10 rfl; have h10:y 10 = _:=hd 10 rfl
           obtain ⟨g,hg1,hg2⟩:=hb.2.2.2.1 (hLd 4 rfl) hLi
           have hsz:=hb.2.2.2.2.2.2.2.1
           obtain ⟨a0,c0,l0,m1,m2⟩:=hb.1
           have m3:FsR W S8.H.ai S8.H.ci S8.H.fi:=m1.ma.rd.st
           refine asked_appQ (want_at 3 88 true true rfl rfl ((hw 88 3 rfl).trans (hd 3 rfl))) (run_app0 _ _ _ rfl wc.heap.size 71 _ 2 32 Try.underlying34 file_info rfl (by decide) g (E89.trans hg1) hg2 S8.H.ai S8.H.fi.length S8.H.ci (S8.H.fi.flatMap pfL) (E95.trans h10) m3.nl m3.le (by rw [Pw.flat_len pfL 2 pfL_len]) m3.rd (by unfold maxLen; omega) (by omega) hsz) (fun v W1 h=>jUs_11 hb h.1 h.2) (fun _ _ _=>trivial)
          ·intro ρ y W L hw hn hLi hLd hb hd
           refine askQ jUs_st (fun _ _ h=>jUs_up (by decide) h) hb ?_
           have E11:ρ (.tmp 11) = .pointer (some ⟨gf0,0,none⟩):=(hn (.tmp 11) rfl).trans rfl
           have m3:=hb.2.1
           refine asked_val (.agg (pfC ⟨x,xa,xs,xc⟩)) (want_at 3 88 true true rfl rfl ((hw 88 3 rfl).trans (hd 3 rfl))) (run_load_blk rfl E11 m3 Try.underlying71 rfl file_size) rfl
          ·intro ρ y W L hw hn hLi hLd hb hd; have E97:=hw 97 12 rfl; have h12:y 12 = _:=hd 12 rfl
           have hsz:=hb.2.2.2.2.2.2.2.1
           refine asked_runQ (.slice (some ⟨W.heap.size,0,none⟩) 1 1) (want_at 3 88 true true rfl rfl ((hw 88 3 rfl).trans (hd 3 rfl))) ?_ (jUs_13 (W':=W.alloc (.cells (pfC ⟨x,xa,xs,xc⟩) 71)) hb ((Below.refl _ _).alloc (Nat.le_refl _) _) (own_box hsz _)) trivial
           simp [execOp,go_sem,E97.trans h12,pfC]
          ·intro ρ y W L hw hn hLi hLd hb hd; have E96:=hw 96 11 rfl; have h11:=hd 11 rfl; have E98:=hw 98 13 rfl; have h13:=hd 13 rfl
           have hsz:=hb.2.2.2.2.2.2.2.1
           have hv:=hb.2.2.2.2.1 (hLd 11 rfl) hLi
           obtain ⟨a,e,hx1,k1,k2,k3,k4⟩:=(hb.2.2.2.2.2.1 (hLd 13 rfl) hLi).rd
           refine asked_appQ (want_at 3 88 true true rfl rfl ((hw 88 3 rfl).trans (hd 3 rfl))) (run_app _ _ _ rfl wc.heap.size 71 _ 2 32 Try.underlying34 file_info rfl (by decide) (y 11) S8.H.fi.length _ E96 hv a 1 e (pfL ⟨x,xa,xs,xc⟩) (E98.trans hx1) k3 k1 rfl k4 (one_toList (pfC_one _)) (by unfold maxLen; omega) (by omega) hsz) (fun v W1 h=>jUs_14 hm8 hgf8 hb (hLd 11 rfl) hLi h.2.1 h.1) (fun _ _ _=>trivial)
          ·intro ρ y W L hw hn hLi hLd hb hd; have E99:=hw 99 14 rfl; have h14:=hd 14 rfl
           obtain ⟨a,c,e14,_⟩:=used_rd hb (hLd 14 rfl)
           refine asked_runQ (.agg #[y 14,.int .i64 0]) (want_at 3 88 true true rfl rfl ((hw 88 3 rfl).trans (hd 3 rfl))) ?_ (jUs_15 (hLd 14 rfl) hb) trivial
           rw [e14] at E99 ⊢
           simp [execOp,go_sem,E99]
          ·intro ρ y W L hw hn hLi hLd hb hd; have E100:=hw 100 15 rfl; have h15:=hd 15 rfl; have E101:=hw 101 16 rfl; have h16:y 16 = _:=hd 16 rfl
           have EF:∀ f,ρ (.func f) = .func (.func f) #[] #[]:=fun f=>hn (.func f) trivial
           obtain ⟨l14,e15⟩:=hb.2.2.2.2.2.2.2.2 (hLd 15 rfl)
           obtain ⟨a,c,e14,hFs⟩:=used_rd hb l14
           rw [e15,e14] at E100
           refine asked_callQ _ _ (want_at 3 88 true true rfl rfl ((hw 88 3 rfl).trans (hd 3 rfl))) (run_call rfl (EF _) Try.func30 (by kernel_rfl) (by kernel_rfl) (by simp only [List.map_toArray,List.map_cons,List.map_nil,E100,E101,h16,EF]; rfl)) ?_
           have hus:=sused_any (S8.H.fi ++ [⟨x,xa,xs,xc⟩]) 0 n a c W hFs
           unfold stC at hus
           rw [hu] at hus
           refine hus.mono ?_
           rintro r w1 ⟨hr1,hb1⟩
           exact ⟨_,hr1,jUs_up (by decide) (jUs_st _ _ _ _ hb1 hb),rfl⟩
          ·intro ρ y W L hw hn hLi hLd hb hd; have E106:=hw 106 21 rfl; have h21:y 21 = _:=hd 21 rfl
           have EC:∀ v,ρ (.const v) = v:=fun v=>hn (.const v) trivial
           have EF:∀ f,ρ (.func f) = .func (.func f) #[] #[]:=fun f=>hn (.func f) trivial
           refine asked_callQ _ _ (want_at 20 105 true true rfl rfl ((hw 105 20 rfl).trans (hd 20 rfl))) (run_call rfl (EF _) Try.func28 (by kernel_rfl) (by kernel_rfl) (by simp only [List.map_toArray,List.map_cons,List.map_nil,E106,h21,EC,EF]; rfl)) ?_
           exact jUs_pick (by decide) hm8 hkf8.out hkx8.out 3 (by omega) hb fun x _ _ _=>⟨x,rfl⟩
          ·intro ρ y W L hw hn hLi hLd hb hd
           refine askQ jUs_st (fun _ _ h=>jUs_up (by decide) h) hb ?_
           have E107:=hw 107 22 rfl
           have h22:=hd 22 rfl
           obtain ⟨x,hx⟩:=h22
           refine asked_val _ (want_at 20 105 true true rfl rfl ((hw 105 20 rfl).trans (hd 20 rfl))) (run_bin rfl (E107.trans hx) (hn (.const _) trivial) (by simp [go_sem]; rfl)) ⟨_,rfl⟩
          ·intro ρ y W L hw hn hLi hLd hb hd
           refine askQ jUs_st (fun _ _ h=>jUs_up (by decide) h) hb ?_
           have E105:=hw 105 20 rfl
           have h20:y 20 = _:=hd 20 rfl
           have E108:=hw 108 23 rfl
           have h23:=hd 23 rfl
           obtain ⟨u,hu9⟩:=h23
           refine asked_val (.bool u) (want_free rfl) (run_pick rfl (E105.trans h20) (by simpa using E108.trans hu9)) ⟨_,rfl⟩
          intro y W9 hbW9 hRW9
          have hy4:((fixR fun _=>True)).r (y 4) W9:=hRW9 4 (by decide)
          have hy11:((fixR fun _=>True)).r (y 11) W9:=hRW9 11 (by decide)
          have hy13:((fixR fun _=>True)).r (y 13) W9:=hRW9 13 (by decide)
          have hy14:((fixR fun _=>True)).r (y 14) W9:=hRW9 14 (by decide)
          have hy15:((fixR fun _=>True)).r (y 15) W9:=hRW9 15 (by decide)
          have hy22:((fixR fun v => ∃ x:Int,v = .int .i64 x)).r (y 22) W9:=hRW9 22 (by decide)
          have hy23:((fixR fun v => ∃ u,v = .bool u)).r (y 23) W9:=hRW9 23 (by decide)
          have hy24:((fixR fun v => ∃ u,v = .bool u)).r (y 24) W9:=hRW9 24 (by decide)
          clear hRW9
          have hbJ:=hbW9.1
          obtain ⟨a9,c9,l9,hm9,hs9⟩:=hbJ
          have fx9:=hbW9.2.1
          have ho9:=Lib.hid hbW9.2.2.1
          obtain ⟨β,hβ⟩:=hy24
          rw [hβ]
          clear hbW9 hm8 hs8 fx8 ho8 hβ
          have hnu:Hid (n < ct ∧ ¬ (n:Int) ∈ (fi0.map PF.fi).flatMap Fi.b ++ xs):=Lib.hid ⟨hnc,fun hmem=>by
           have e1:=hF8.out.1.fi
           unfold usedSt at hu
           rw [blks_of,e1] at hu
           have h2:¬ (n:Int) ∈ pblks (fi0 ++ [(⟨x,xa,xs,xc⟩:PF)]):=of_decide_eq_false hu
           refine h2 ?_
           unfold pblks
           rw [List.flatMap_append]
           rcases List.mem_append.1 hmem with h3 | h3
           ·rw [List.flatMap_map] at h3
            exact List.mem_append_left _ h3
           ·exact List.mem_append_right _ (by simpa using h3)⟩
          go_wp2
          go_meet
          case rel=>exact ⟨β,a9,c9,l9,rfl,hm9,hs9,fx9,ho9,Lib.hid fun _=>hnu.out⟩
        ·have hdn:¬ (n:Int) < (ct:Int):=by omega
         refine wp_growP 25 [_,_,_,_,_,_,_,_,_,_,_,_,_,_,_,_,_,_,_,_,_,_,_,_,.v (.bool false)] (Gk rfl (Gk rfl (Gb (.bool false) (by simp [go_sem,hdn]) rfl rfl rfl rfl rfl (Gk rfl (Gk rfl (Gk rfl (Gk rfl (Gk rfl (Gk rfl (Gk rfl (Gk rfl (Gk rfl (Gk rfl (Gk rfl (Gk rfl (Gk rfl (Gk rfl (Gk rfl (Gk rfl (Gk rfl (Gk rfl (Gk rfl (Gk rfl (Gk rfl (Gk rfl (all_nil)))))))))))))))))))))))))) (fun _=>rfl) rfl ?_
         intro y W9 hbW9 _
         have hm9:=hm8.below hbW9
         have hs9:=(MS.refl wc b S8).below hbW9
         have fx9:=fx8.ext hbW9
         have ho9:=Lib.hid (ho8.out.1.below hbW9)
         clear hbW9 hm8 fx8 ho8
         go_wp2
         go_meet
         case rel=>exact ⟨false,S8.al,S8.cl,S8.l,rfl,hm9,hs9,fx9,ho9,Lib.hid fun e=>(by cases e)⟩
       case rest=>
       obtain ⟨β,a9,c9,l9,rfl,hm9,hs9,fx9,ho9,hβ⟩:=hcut
       have hap:=Lib.hid ho8.out.2
       have hs9:=hs8.trans hs9
       have hF9:Hid (Fil f s ct S3.H.asl fi0 bk qu (S8.lst a9 c9 l9) ∧ Fb ct bk qu (fi0.map PF.fi) xs ∧ xs.length = i):=Lib.hid ⟨hF8.out.1.lst _ _ _,hF8.out.2⟩
       have hkf9:Hid (¬ kbM b (S8.lst a9 c9 l9) gf0):=hkf8
       have hkx9:Hid (∀ g,(pfV ⟨x,xa,xs,xc⟩).ownBlock = some g → ¬ kbM b (S8.lst a9 c9 l9) g):=hkx8
       clear hm8 hs8 hF8 fx8 ho8 hkf8 hkx8
       generalize S8.lst a9 c9 l9 = S9 at hm9 hs9 hF9 hkf9 hkx9
       go_upto_if 109 with (fail)
       have hF8l:Hid (xs.length = i):=Lib.hid hF9.out.2.2
       have hF10l:Hid (xs.length ≤ C):=Lib.hid (by have:=hF9.out.2.2; omega)
       go_cut [13] (fun s13 wx => ∃ (v:Int) (S:MW) (bk:List Page) (qu:List (Int × Page)),s13 = .int .i64 v ∧ MkO wx b b S ∧ MS w6 b S6 wx S ∧ Hid (¬ kbM b S gf0) ∧ Hid (Fil f s ct S3.H.asl fi0 bk qu S ∧ Fb ct bk qu (fi0.map PF.fi) (xs ++ [v])) ∧ Blk wx gf0 (pfC ⟨x,xa,xs,xc⟩) 71 ∧ Hid (Own wx b 3 1 (pfV ⟨x,xa,xs,xc⟩) xs.length (xs.map inV)))
       case first=>
        cases β with
        | false=>
         go_wp2
         go_meet
         case rel=>exact ⟨-1,S9,bk,qu,rfl,hm9,hs9,hkf9,Lib.hid ⟨hF9.out.1,hF9.out.2.1.none⟩,fx9,ho9⟩
        | true=>
         have hnn:=Lib.hid (hβ.out rfl)
         clear hβ
         go_wp2_with fail
         refine (rpage_any S9 b b _ hm9).mono ?_
         rintro r w10 ⟨P,a10,c10,l10,rfl,hm10,hs10⟩
         have fx10:=hs10.blkN fx9 hkf9.out
         have ho10:Hid (Own w10 b 3 1 (pfV ⟨x,xa,xs,xc⟩) xs.length (xs.map inV)):=Lib.hid (hs10.ownN ho9.out hkx9.out)
         have hs10:=hs9.trans hs10
         have hF10:Hid (Fil f s ct S3.H.asl fi0 bk qu (S9.lst a10 c10 l10) ∧ Fb ct bk qu (fi0.map PF.fi) xs ∧ xs.length = i):=Lib.hid ⟨hF9.out.1.lst _ _ _,hF9.out.2⟩
         have hkf10:Hid (¬ kbM b (S9.lst a10 c10 l10) gf0):=hkf9
         have hkx10:Hid (∀ g,(pfV ⟨x,xa,xs,xc⟩).ownBlock = some g → ¬ kbM b (S9.lst a10 c10 l10) g):=hkx9
         clear hm9 hs9 hF9 fx9 ho9 hkf9 hkx9
         generalize S9.lst a10 c10 l10 = S10 at hm10 hs10 hF10 hkf10 hkx10
         go_wp2_with (refine wpList_stn rfl _ _ _ rfl (pgC P) rfl rfl rfl psize (pgC_one P) ?_)
         intro w11 hb11 px11
         have hm11:=hm10.below hb11
         have hs11:=hs10.below hb11
         have fx11:=fx10.ext hb11
         have ho11:Hid (Own w11 b 3 1 (pfV ⟨x,xa,xs,xc⟩) xs.length (xs.map inV)):=Lib.hid (ho10.out.below hb11)
         have hnp:=Lib.hid (hm10.new (Nat.le_refl _))
         have hp0:=Lib.hid hs10.size
         have hpB:b ≤ w10.heap.size:=hm10.bs
         have hpf:Hid (w10.heap.size ≠ gf0):=Lib.hid (fun e=>by have:=fx10.lt; omega)
         clear hm10 hs10 fx10 ho10 hb11
         generalize w10.heap.size = gp at *
         go_upto_region 21 with (fail)
         go_loopw [113] (fun j wr => ∃ k:Nat,k ≤ 8 ∧ j = .int .i64 k ∧ MkO wr b b S10 ∧ MS w6 b S6 wr S10 ∧ Blk wr gp (pgC (cutTo P (x - (i:Int) * 8) k)) 50 ∧ Blk wr gf0 (pfC ⟨x,xa,xs,xc⟩) 71 ∧ Hid (Own wr b 3 1 (pfV ⟨x,xa,xs,xc⟩) xs.length (xs.map inV))) (fun j _=>8 - (intOf j).toNat)
         case atStart=>exact ⟨0,by omega,rfl,hm11,hs11,by rw [show cutTo P (x - (i:Int) * 8) 0 = P from by ext j hj; simp [cutTo]]; exact px11,fx11,ho11⟩
         case round=>
          clear hm11 hs11 px11 fx11 ho11
          obtain ⟨k,hk,rfl,hm,hs,px,fx,ho⟩:=hrel
          by_cases hk8:k < 8
          ·have hki:(k:Int) < 8:=by omega
           have hcf:=fx.cell
           unfold pfC at hcf
           have hw1:IntKind.i64.wrap (8 * (i:Int)) = 8 * (i:Int):=IntWalk.i64_in _ (by omega)
           have hw2:IntKind.i64.wrap (8 * (i:Int) + (k:Int)) = 8 * (i:Int) + (k:Int):=IntWalk.i64_in _ (by omega)
           by_cases hge:x ≤ 8 * (i:Int) + k
           ·have hset:Hid ((pgC (cutTo P (x - (i:Int) * 8) k)).setIfInBounds k (.int .u8 0) = pgC (cutTo P (x - (i:Int) * 8) (k + 1))):=Lib.hid (by
             rw [← cutTo_set P _ k hk8 (by omega)]; exact pgC_set _ k hk8 0)
            generalize hT:cutTo P (x - (i:Int) * 8) k = T at px hset
            clear hT
            go_wp2_with (refine wpList_stv rfl _ _ _ rfl gp k _ [.int .u8 0] rfl rfl rfl _ _ px (by show k + 1 ≤ 8; omega) (by kernel_rfl) (fun u hu=>by cases List.mem_singleton.1 hu; rfl) ?_)
            intro w12 px12 hg12
            rw [putAt_one,hset.out] at px12
            have hm12:=hm.locT px (by decide) hnp.out hpB hg12
            have hs12:=hs.loc hg12 hp0.out
            have fx12:=fx.grown hg12 (fun e=>hpf.out (by have:=Option.some.inj e; omega))
            have ho12:Hid (Own w12 b 3 1 (pfV ⟨x,xa,xs,xc⟩) xs.length (xs.map inV)):=Lib.hid (own_keep ho.out px (by decide) hg12)
            clear hm hs px hg12 hcf fx ho
            go_wp2
            go_roundw
            case rel=>exact ⟨k + 1,by omega,by go_num,hm12,hs12,px12,fx12,ho12⟩
            case measure=>simp [intOf]; omega
           ·have hset:cutTo P (x - (i:Int) * 8) k = cutTo P (x - (i:Int) * 8) (k + 1):=by
             ext j hj
             simp only [cutTo,Vector.getElem_ofFn]
             by_cases e:x - (i:Int) * 8 ≤ (j:Int)
             ·rw [if_neg (by omega),if_neg (by omega)]
             ·rw [if_neg (by omega),if_neg (by omega)]
            rw [hset] at px
            clear hset
            go_wp2
            go_roundw
            case rel=>exact ⟨k + 1,by omega,by go_num,hm,hs,px,fx,ho⟩
            case measure=>simp [intOf]; omega
          ·have hki:¬ (k:Int) < 8:=by omega
           rw [cutTo_end _ _ k (by omega)] at px
           generalize cutPage P (x - (i:Int) * 8) = PC at px
           have hncn:n < ct:=hnn.out.1
           have hdl:S10.H.dk.blocks.length = ct:=by rw [hF10.out.1.dk]; exact hF10.out.2.1.cl.1
           obtain ⟨g,off,cap,cur,hv,hgB,hg,hgs,hgc,hgw⟩:=hm.ma.dk.b.put pgL_len (by decide) n (by rw [hdl]; exact hncn)
           have hdb:S10.H.db = some ⟨g,off,none⟩:=(Value.slice.inj hv).1
           have hgw':=Lib.hid hgw
           have hdl':=Lib.hid hdl
           have hdb':=Lib.hid hdb
           have hpg:Hid (gp ≠ g):=Lib.hid (fun e=>hnp.out (by rw [e]; exact .inr (by simp only [klM,hdb]; simp [oB,Value.ownBlock])))
           have hfg:Hid (gf0 ≠ g):=Lib.hid (fun e=>hkf10.out (by rw [e]; exact .inr (by simp only [klM,hdb]; simp [oB,Value.ownBlock])))
           have hkg:Hid (kbM b S10 g):=Lib.hid (.inr (by simp only [klM,hdb]; simp [oB,Value.ownBlock]))
           clear hv hgc hgw hdl hdb
           go_upto_region 26 with (fail)
           refine wp_growP 9 [_,_,_,_,_,_,_,_,_] (Gk rfl (Gk rfl (Gf b 1 rfl rfl (Gf b 6 rfl rfl (Gf b 6 rfl rfl (Gl hm.blk (V:=.slice (some ⟨g,off,none⟩) ct S10.H.cdb) (by simp [mkC,hdb'.out,hdl'.out]) rfl rfl rfl rfl (Gk rfl (Gr (.agg #[.int .u8 PC[0].toNat,.int .u8 PC[1].toNat,.int .u8 PC[2].toNat,.int .u8 PC[3].toNat,.int .u8 PC[4].toNat,.int .u8 PC[5].toNat,.int .u8 PC[6].toNat,.int .u8 PC[7].toNat]) (fun ρ y W hb hk=>(run_load_rd rfl (kx_at rfl hk) (blk_part (px.ext hb) 0 8) Try.underlying50 rfl (by kernel_rfl))) rfl rfl (Gr (.pointer (some ⟨g,off + n * 8,none⟩)) (fun ρ y W hb hk=>(run_idx rfl (kx_at rfl hk) (kx_at rfl hk) hncn Try.underlying30 psize)) rfl rfl (all_nil)))))))))) (fun _=>rfl) rfl ?_
           intro y W13 hbW13 _
           have hm13:=hm.below hbW13
           have hs13:=hs.below hbW13
           have px13:=px.ext hbW13
           have fx13:=fx.ext hbW13
           have ho13:=Lib.hid (ho.out.below hbW13)
           have hg13:=hg.ext hbW13
           clear hm hs px fx ho hg hbW13
           go_wp2_with (refine wpList_stv rfl _ _ _ rfl g (off + n * 8) _ (pgL PC) rfl rfl rfl _ _ hg13 (by show off + n * 8 + 8 ≤ cur.size; omega) (by kernel_rfl) (one_toList (pgC_one PC)) ?_)
           intro w14 hb14 hg14
           have hpo:=hgw'.out _ PC hb14
           have hm14:MkO w14 b b { S10 with H:={ S10.H with dk:=⟨S10.H.dk.blocks.set n PC,S10.H.dk.queue⟩ } }:=hm13.putD hg13 hgB (by rw [hdb'.out]; rfl) hg14 (l:=S10.H.dk.blocks.set n PC) (by simp) (by simpa using hpo)
           have hs14:MS w6 b S6 w14 { S10 with H:={ S10.H with dk:=⟨S10.H.dk.blocks.set n PC,S10.H.dk.queue⟩ } }:=hs13.put hg14 hkg.out (fun x hx => .inl hx)
           have px14:=px13.grown hg14 (fun e=>hpg.out (Option.some.inj e).symm)
           have fx14:=fx13.grown hg14 (fun e=>hfg.out (Option.some.inj e).symm)
           have ho14:Hid (Own w14 b 3 1 (pfV ⟨x,xa,xs,xc⟩) xs.length (xs.map inV)):=Lib.hid (own_keep ho13.out hg13 (by decide) hg14)
           have hF14:Hid (Fil f s ct S3.H.asl fi0 (bk.set n PC) qu { S10 with H:={ S10.H with dk:=⟨S10.H.dk.blocks.set n PC,S10.H.dk.queue⟩ } }):=Lib.hid (by
            have h9:=hF10.out.1
            exact ⟨h9.m,h9.asl,h9.sl,h9.sw,by show (⟨S10.H.dk.blocks.set n PC,S10.H.dk.queue⟩:Dsk) = _; rw [h9.dk],h9.fi,h9.ct,h9.ca,h9.sp,h9.T⟩)
           have hkf14:Hid (¬ kbM b { S10 with H:={ S10.H with dk:=⟨S10.H.dk.blocks.set n PC,S10.H.dk.queue⟩ } } gf0):=hkf10
           have hnp14:Hid (¬ kbM b { S10 with H:={ S10.H with dk:=⟨S10.H.dk.blocks.set n PC,S10.H.dk.queue⟩ } } gp):=hnp
           have hkx14:Hid (∀ g,(pfV ⟨x,xa,xs,xc⟩).ownBlock = some g → ¬ kbM b { S10 with H:={ S10.H with dk:=⟨S10.H.dk.blocks.set n PC,S10.H.dk.queue⟩ } } g):=hkx10
           clear hm13 hs13 px13 fx13 ho13 hg13 hpo hb14 hg14
           generalize { S10 with H:={ S10.H with dk:=⟨S10.H.dk.blocks.set n PC,S10.H.dk.queue⟩ } } = S14 at hm14 hs14 hF14 hkf14 hnp14 hkx14
           go_wp2_with fail
           refine (rpick_any S14 2 b b _ hm14 (by omega)).mono ?_
           rintro r w15 ⟨z,a15,c15,l15,rfl,hm15,hs15,hz,_⟩
           have fx15:=hs15.blkN fx14 hkf14.out
           have px15:=hs15.blkN px14 hnp14.out
           have ho15:Hid (Own w15 b 3 1 (pfV ⟨x,xa,xs,xc⟩) xs.length (xs.map inV)):=Lib.hid (hs15.ownN ho14.out hkx14.out)
           have hs15:=hs14.trans hs15
           have hF15:Hid (Fil f s ct S3.H.asl fi0 (bk.set n PC) qu (S14.lst a15 c15 l15)):=Lib.hid (hF14.out.lst _ _ _)
           have hkf15:Hid (¬ kbM b (S14.lst a15 c15 l15) gf0):=hkf14
           have hnp15:Hid (¬ kbM b (S14.lst a15 c15 l15) gp):=hnp14
           have hkx15:Hid (∀ g,(pfV ⟨x,xa,xs,xc⟩).ownBlock = some g → ¬ kbM b (S14.lst a15 c15 l15) g):=hkx14
           clear hm14 hs14 fx14 px14 ho14 hF14 hkf14 hnp14 hkx14
           generalize S14.lst a15 c15 l15 = S15 at hm15 hs15 hF15 hkf15 hnp15 hkx15
           by_cases hz1:z = 1
           ·subst hz1
            have hql:S15.H.dk.queue.length ≤ 100:=by
             have h1:=hF10.out.2.1.ql
             have h2:=hF10.out.2.2
             have h3:=hl0.out
             rw [hF15.out.dk]
             rw [List.length_map] at h1
             show qu.length ≤ 100
             omega
            have hnb:Hid (∀ g,(Value.slice S15.H.dq S15.H.dk.queue.length S15.H.cdq).ownBlock = some g → g ≠ b ∧ ∀ t ∈ [(gp,pgC PC,50),(gf0,pfC ⟨x,xa,xs,xc⟩,71)],t.1 ≠ g):=Lib.hid (fun g hg=>by
             obtain ⟨cs,hk⟩:=own_blk hm15.ma.dk.q g hg
             refine ⟨fun e=>blk_ne hk hm15.blk (by decide) e,fun t ht => ?_⟩
             simp only [List.mem_cons,List.not_mem_nil,or_false] at ht
             rcases ht with rfl | rfl
             ·exact blk_ne px15 hk (by decide)
             ·exact blk_ne fx15 hk (by decide))
            have hks:Hid (∀ t ∈ [(gp,pgC PC,50),(gf0,pfC ⟨x,xa,xs,xc⟩,71)],Blk w15 t.1 t.2.1 t.2.2):=Lib.hid (fun t ht=>by
             simp only [List.mem_cons,List.not_mem_nil,or_false] at ht
             rcases ht with rfl | rfl
             ·exact px15
             ·exact fx15)
            go_upto_region 28 with (fail)
            refine wp_growPQ 16 [_,_,_,_,_,_,.v (.slice S15.H.dq S15.H.dk.queue.length S15.H.cdq),_,.v (.agg (pgC PC)),.v (.agg (puC ((n:Int),PC))),.r 10 ((fixR fun _=>True)),.r 11 ((fixR fun _=>True)),_,_,_,_] (jOne S15 b b w15 [(gp,pgC PC,50),(gf0,pfC ⟨x,xa,xs,xc⟩,71)] 11 10 93 9 S15.H.dk.queue.length (.slice S15.H.dq S15.H.dk.queue.length S15.H.cdq) (S15.H.dk.queue.flatMap puL) (puL ((n:Int),PC))) jOne_st (fun y=>jOne_0 hm15 hks.out y) (Qk jOne_st rfl (Qk jOne_st rfl (Qk jOne_st rfl (Qf jOne_st b 1 rfl rfl (Qf jOne_st b 6 rfl rfl (Qf jOne_st b 7 rfl rfl (all_cons ?_ (Qk jOne_st rfl (all_cons ?_ (all_cons ?_ (all_cons ?_ (all_cons ?_ (Qk jOne_st rfl (Qf jOne_st b 1 rfl rfl (Qf jOne_st b 6 rfl rfl (Qf jOne_st b 7 rfl rfl (all_nil) (fun _ _ _ _ h=>jOne_up (by decide) h)) (fun _ _ _ _ h=>jOne_up (by decide) h)) (fun _ _ _ _ h=>jOne_up (by decide) h)) (fun _ _ _ _ h=>jOne_up (by decide) h)))))) (fun _ _ _ _ h=>jOne_up (by decide) h))) (fun _ _ _ _ h=>jOne_up (by decide) h)) (fun _ _ _ _ h=>jOne_up (by decide) h)) (fun _ _ _ _ h=>jOne_up (by decide) h)) (fun _ _ _ _ h=>jOne_up (by decide) h)) (fun _ _ _ _ h=>jOne_up (by decide) h)) (fun _ _ _ _ h=>jOne_up (by decide) h)) (fun _=>rfl) rfl ?_
            ·intro ρ y W L hw hn hLi hLd hb hd
             refine askQ jOne_st (fun _ _ h=>jOne_up (by decide) h) hb ?_
             have E143:=hw 143 5 rfl
             have h5:y 5 = _:=hd 5 rfl
             have m1:=hb.1.1
             refine asked_val (.slice S15.H.dq S15.H.dk.queue.length S15.H.cdq) (want_free rfl) (by simp [execOp,go_sem,E143,h5,m1.cell,mkC]) rfl
            ·intro ρ y W L hw hn hLi hLd hb hd
             refine askQ jOne_st (fun _ _ h=>jOne_up (by decide) h) hb ?_
             have E15:ρ (.tmp 15) = .pointer (some ⟨gp,0,none⟩):=(hn (.tmp 15) rfl).trans rfl
             have m3:=hb.1.2 _ List.mem_cons_self
             refine asked_val (.agg (pgC PC)) (want_free rfl) (run_load_blk rfl E15 m3 Try.underlying50 rfl psize) rfl
            ·intro ρ y W L hw hn hLi hLd hb hd
             refine askQ jOne_st (fun _ _ h=>jOne_up (by decide) h) hb ?_
             have E145:=hw 145 7 rfl
             have h7:y 7 = _:=hd 7 rfl
             have E146:=hw 146 8 rfl
             have h8:y 8 = _:=hd 8 rfl
             refine asked_val (.agg (puC ((n:Int),PC))) (want_free rfl) (by simp [execOp,go_sem,E145,h7,E146,h8,pgC,puC]) rfl
            ·intro ρ y W L hw hn hLi hLd hb hd; have E147:=hw 147 9 rfl; have h9:y 9 = _:=hd 9 rfl
             refine asked_runQ (.slice (some ⟨W.heap.size,0,none⟩) 1 1) (want_free rfl) ?_ (jOne_q (W':=W.alloc (.cells (puC ((n:Int),PC)) 93)) (by decide) ((Below.refl _ _).alloc (Nat.le_refl _) _) hb ⟨Nat.le_refl _,by unfold maxLen; omega,fun e=>(by cases e),RdV.new _ _ _⟩) trivial
             simp [execOp,go_sem,E147.trans h9,puC]
            ·intro ρ y W L hw hn hLi hLd hb hd; have E144:=hw 144 6 rfl; have h6:y 6 = _:=hd 6 rfl; have E148:=hw 148 10 rfl; have h10:=hd 10 rfl
             have hm:=(hb.2.1 hLi).1
             obtain ⟨a,e,hx1,hx2⟩:=hb.2.2.1 (hLd 10 rfl) hLi
             have hpv:Own W b 93 9 (.slice S15.H.dq S15.H.dk.queue.length S15.H.cdq) S15.H.dk.queue.length (S15.H.dk.queue.flatMap puL):=hm.ma.dk.q
             refine asked_appQ (want_free rfl) (run_app _ _ _ rfl b 93 _ 9 16 Try.underlying31 put_info rfl (by decide) (.slice S15.H.dq S15.H.dk.queue.length S15.H.cdq) S15.H.dk.queue.length _ (E144.trans h6) hpv a 1 e (puL ((n:Int),PC)) (E148.trans hx1) hx2.nl hx2.le rfl hx2.rd (one_toList (puC_one _)) (by unfold maxLen; omega) (by omega) hm.bs) (fun v W1 h=>jOne_p hLi hb h.2.1 hnb.out h.1 h.2.2) (fun _ _ _=>trivial)
            intro y W16 hbW16 hRW16
            have hy10:((fixR fun _=>True)).r (y 10) W16:=hRW16 10 (by decide)
            have hy11:((fixR fun _=>True)).r (y 11) W16:=hRW16 11 (by decide)
            clear hRW16
            obtain ⟨wq,hmq,hsq,hgq,hoq,hsnq⟩:=hbW16.2.2.2 rfl
            have hbk16:=hbW16.1.1
            have fx16:Blk W16 gf0 (pfC ⟨x,xa,xs,xc⟩) 71:=hbW16.1.2 _ (List.mem_cons_of_mem _ List.mem_cons_self)
            have ho16:Hid (Own W16 b 3 1 (pfV ⟨x,xa,xs,xc⟩) xs.length (xs.map inV)):=Lib.hid (by
             have h1:=hsq.ownN ho15.out hkx15.out
             rcases grow_T hmq.ma.dk.q hgq with hb0 | ⟨g,cs,hk,_,hg'⟩
             ·exact h1.below hb0
             ·exact own_keep h1 hk (by decide) hg')
            have hsq':=Lib.hid hsq
            have hs16:=hs15.trans hsq
            obtain ⟨aq,cq,hyq,_⟩:=hoq.rd
            rw [hyq] at hoq hsnq ⊢
            clear hyq hbW16 hm15 hs15 px15 fx15 ho15 hsq hks hnb
            go_wp2_with (refine wpList_stv rfl _ _ _ rfl b 7 _ [.slice aq (S15.H.dk.queue.length + 1) cq] rfl rfl rfl _ _ hbk16 (by show 7 + 1 ≤ 13; omega) (by kernel_rfl) (fun u hu=>by cases List.mem_singleton.1 hu; rfl) ?_)
            intro w17 hb17 hg17
            have hlen:(S15.H.dk.queue ++ [((n:Int),PC)]).length = S15.H.dk.queue.length + 1:=by simp
            have hoq' : Own W16 b 93 9 (.slice aq (S15.H.dk.queue ++ [((n:Int),PC)]).length cq) (S15.H.dk.queue ++ [((n:Int),PC)]).length ((S15.H.dk.queue ++ [((n:Int),PC)]).flatMap puL):=by
             rw [hlen,List.flatMap_append]; simpa using hoq
            have hm17:=hmq.appQ hgq hoq' (by rw [hlen]; exact hb17) hg17
            have hn17:∀ x,kbM b { S15 with H:={ S15.H with dq:=aq,cdq:=cq,dk:=⟨S15.H.dk.blocks,S15.H.dk.queue ++ [((n:Int),PC)]⟩ } } x → kbM b S15 x ∨ oB aq = some x:=fun x hx=>by
             rcases hx with hx | hx
             ·exact .inl (.inl hx)
             ·simp only [klM,List.mem_cons,List.not_mem_nil,or_false] at hx
              rcases hx with hx | hx | hx | hx | hx | hx | hx | hx | hx <;> first | exact .inr hx.symm | exact .inl (.inr (by simp [klM,hx]))
            have hs17:=hs16.app hmq hmq.ma.dk.q (by simp [klM]) hgq hg17 hsnq hn17
            have hqN:Hid (¬ kbM b { S15 with H:={ S15.H with dq:=aq,cdq:=cq,dk:=⟨S15.H.dk.blocks,S15.H.dk.queue ++ [((n:Int),PC)]⟩ } } gf0):=Lib.hid (fun hk=>(hn17 gf0 hk).elim hkf15.out fun e=>blk_ne (own_oB hoq' e).2.choose_spec fx16 (by decide) rfl)
            have fx17:=fx16.grown hg17 (fun e=>hkf15.out (.inl (Option.some.inj e).symm))
            have ho17:Hid (Own w17 b 3 1 (pfV ⟨x,xa,xs,xc⟩) xs.length (xs.map inV)):=Lib.hid (own_keep ho16.out hbk16 (by decide) hg17)
            have hF17:Hid (Fil f s ct S3.H.asl fi0 (bk.set n PC) (qu ++ [((n:Int),PC)]) { S15 with H:={ S15.H with dq:=aq,cdq:=cq,dk:=⟨S15.H.dk.blocks,S15.H.dk.queue ++ [((n:Int),PC)]⟩ } } ∧ Fb ct (bk.set n PC) (qu ++ [((n:Int),PC)]) (fi0.map PF.fi) (xs ++ [(n:Int)])):=Lib.hid (by
             have h9:=hF15.out
             exact ⟨⟨h9.m,h9.asl,h9.sl,h9.sw,by show (⟨S15.H.dk.blocks,S15.H.dk.queue ++ [((n:Int),PC)]⟩:Dsk) = _; rw [h9.dk],h9.fi,h9.ct,h9.ca,h9.sp,h9.T⟩,hF10.out.2.1.wait hnn.out.1 hnn.out.2 PC⟩)
            clear hmq hgq hoq hsnq hbk16 fx16 ho16 hs16 hb17 hlen hoq' hg17 hn17
            go_wp2
            go_meet
            case rel=>exact ⟨(n:Int),_,_,_,rfl,hm17,hs17,hqN,hF17,fx17,ho17⟩
           ·have hF17:Hid (Fil f s ct S3.H.asl fi0 (bk.set n PC) qu S15 ∧ Fb ct (bk.set n PC) qu (fi0.map PF.fi) (xs ++ [(n:Int)])):=Lib.hid ⟨hF15.out,hF10.out.2.1.some hnn.out.1 hnn.out.2 PC⟩
            go_wp2
            go_meet
            case rel=>exact ⟨(n:Int),S15,_,_,rfl,hm15,hs15,hkf15,hF17,fx15,ho15⟩
       case rest=>
       obtain ⟨v,S,bk,qu,rfl,hm,hs,hkf,hF,fx,ho⟩:=hcut
       clear hm9 hs9 hF9 fx9 ho9 hkf9 hkx9
       have hcf:=fx.cell
       unfold pfC at hcf
       have hF':=Lib.hid hF.out.2
       have hxl:xs.length ≤ 100:=by
        have h1:=hF10l.out
        omega
       have hlw:=Lib.hid hxl
       go_wp2_with (at_builtin; go_must (refine wpList_appC rfl _ _ 28 rfl b 3 (.int .i64 0) 1 8 Try.underlying28 int_info rfl (by decide) (pfV ⟨x,xa,xs,xc⟩) xs.length (xs.map inV) rfl (ho.out.alloc _) (some ⟨wc.heap.size,0,none⟩) 1 1 [inV v] rfl (fun h=>(by cases h)) (Nat.le_refl _) rfl (RdV.new _ #[inV v] _) (by simp [inV,Value.oneCell']) (by unfold maxLen; omega) (by omega) (le_alloc' hm.bs _) ?_))
       intro v2 w2 own2 hg2 hsn2
       have hal:=(Below.refl wc.heap.size wc).alloc (Nat.le_refl _) (.cells #[inV v] 3)
       have hm1:=hm.below hal
       have hs1:=hs.below hal
       have fx1:=fx.ext hal
       have ho1:Own (wc.alloc (.cells #[inV v] 3)) b 3 1 (.slice xa xs.length xc) xs.length (xs.map inV):=ho.out.below hal
       obtain ⟨a2,c2,hv2,_⟩:=own2.rd
       rw [hv2] at own2 hsn2 ⊢
       have hge2:Hid (∀ g,oB a2 = some g → w6.heap.size ≤ g ∧ oB S3.H.asl ≠ some g ∧ ∀ p ∈ fi0,oB p.a ≠ some g):=Lib.hid (fun g hg=>by
        rcases hsn2 with e1 | e1
        ·unfold pfV at e1
         rw [oB_eq,oB_eq] at e1
         exact hap.out g (by rw [← e1]; exact hg)
        ·have h1:=e1 g (by rw [oB_eq]; exact hg)
         refine ⟨Nat.le_trans hs1.size h1,fun e => ?_,fun p hp e => ?_⟩
         ·exact absurd h1 (Nat.not_le.2 (own_oB hm1.ma.sl (by rw [hF.out.1.asl]; exact e)).2.choose_spec.lt)
         ·rw [← hF.out.1.fi] at hp
          obtain ⟨k,hk,rfl⟩:=List.mem_iff_getElem.1 hp
          exact absurd h1 (Nat.not_le.2 (own_oB (hm1.ma.st.each k _ (List.getElem?_eq_getElem hk)) e).2.choose_spec.lt))
       have hm2:MkO w2 b b S:=by
        rcases grow_T ho1 hg2 with hb0 | ⟨g,cs,hk,hga,hg'⟩
        ·exact hm1.below hb0
        ·exact hm1.locI hk (hm1.kb_int hk (by rw [hF.out.1.asl]; exact (hap.out g hga).2.1)) (by rw [hF.out.1.fi]; exact (hap.out g hga).2.2) (own_oB ho1 hga).1 hg'
       have hs2:MS w6 b S6 w2 S:=by
        rcases grow_T ho1 hg2 with hb0 | ⟨g,cs,hk,hga,hg'⟩
        ·exact hs1.below hb0
        ·exact hs1.loc hg' (hap.out g hga).1
       have fx2:Blk w2 gf0 (pfC ⟨x,xa,xs,xc⟩) 71:=by
        rcases grow_T ho1 hg2 with hb0 | ⟨g,cs,hk,hga,hg'⟩
        ·exact fx1.ext hb0
        ·exact blk_keep fx1 hk (by decide) hg'
       clear hcf hm hs fx hm1 hs1 fx1 ho1 hg2 hsn2 hal ho hv2
       go_wp2_with (refine wpList_stv rfl _ _ _ rfl gf0 1 _ [.slice a2 (xs.length + 1) c2] rfl rfl rfl _ _ fx2 (by show 1 + 1 ≤ 2; omega) (by kernel_rfl) (fun u hu=>by cases List.mem_singleton.1 hu; rfl) ?_)
       intro w3 hb3 hg3
       have hxl1:(xs ++ [v]).length = xs.length + 1:=by simp
       have fx3:Blk w3 gf0 (pfC ⟨x,a2,xs ++ [v],c2⟩) 71:=by
        have e:pfC ⟨x,a2,xs ++ [v],c2⟩ = putAt (pfC ⟨x,xa,xs,xc⟩) 1 [.slice a2 (xs.length + 1) c2]:=by
         unfold pfC
         dsimp only
         rw [hxl1]
         kernel_rfl
        rw [e]; exact hb3
       have hm3:=hm2.locT fx2 (by decide) hkf.out hgB hg3
       have hs3:=hs2.loc hg3 hg6.out
       have ho3:Hid (Own w3 b 3 1 (pfV ⟨x,a2,xs ++ [v],c2⟩) (xs ++ [v]).length ((xs ++ [v]).map inV) ∧ ∀ g,oB a2 = some g → w6.heap.size ≤ g ∧ oB S3.H.asl ≠ some g ∧ ∀ p ∈ fi0,oB p.a ≠ some g):=Lib.hid ⟨by
        have h1:=own_keep own2 fx2 (by decide) hg3
        unfold pfV
        dsimp only
        rw [hxl1,List.map_append]
        exact h1,hge2.out⟩
       have hF3:Hid (Fil f s ct S3.H.asl fi0 bk qu S ∧ Fb ct bk qu (fi0.map PF.fi) (xs ++ [v]) ∧ (xs ++ [v]).length = i + 1):=Lib.hid ⟨hF.out.1,hF.out.2,by rw [hxl1,hF8l.out]⟩
       clear hm2 hs2 fx2 own2 hb3 hg3 hxl1 hxl
       go_wp2
       go_roundw
       case rel=>exact ⟨i + 1,S,bk,qu,xs ++ [v],a2,c2,by omega,by go_num,hm3,hs3,hkf,hF3,fx3,ho3⟩
       case measure=>simp [intOf]; omega
      ·have hii:¬ (i:Int) < (C:Int):=by omega
       have hiC' : i = C:=by omega
       subst hiC'
       have hfl5:S.H.fi.length ≤ 5:=by rw [hI.out.1.fi]; have:=hl0.out; omega
       have hkaf:∀ g,(Value.slice S.H.ai S.H.fi.length S.H.ci).ownBlock = some g → kbM b S g:=fun g hg => .inr (by rw [oB_eq] at hg; simp [klM,hg])
       have hnb:Hid (∀ g,(Value.slice S.H.ai S.H.fi.length S.H.ci).ownBlock = some g → g ≠ b ∧ ∀ t ∈ [(gf0,pfC ⟨x,xa,xs,xc⟩,71)],t.1 ≠ g):=Lib.hid (fun g hg=>by
        obtain ⟨cs,hk⟩:=own_blk hm.ma.st.own g hg
        refine ⟨fun e=>blk_ne hk hm.blk (by decide) e,fun t ht => ?_⟩
        rw [List.mem_singleton.1 ht]
        intro e
        exact hkf'.out (by rw [show gf0 = g from e]; exact hkaf g hg))
       have hks:Hid (∀ t ∈ [(gf0,pfC ⟨x,xa,xs,xc⟩,71)],Blk wr t.1 t.2.1 t.2.2):=Lib.hid (fun t ht=>by rw [List.mem_singleton.1 ht]; exact fx)
       go_upto_region 31 with (fail)
       refine wp_growPQ 14 [_,_,_,_,_,_,.v (.slice S.H.ai S.H.fi.length S.H.ci),.v (.agg (pfC ⟨x,xa,xs,xc⟩)),.r 8 ((fixR fun _=>True)),.r 9 ((fixR fun _=>True)),_,_,_,_] (jOne S b b wr [(gf0,pfC ⟨x,xa,xs,xc⟩,71)] 9 8 71 2 S.H.fi.length (.slice S.H.ai S.H.fi.length S.H.ci) (S.H.fi.flatMap pfL) (pfL ⟨x,xa,xs,xc⟩)) jOne_st (fun y=>jOne_0 hm hks.out y) (Qk jOne_st rfl (Qk jOne_st rfl (Qk jOne_st rfl (Qf jOne_st b 1 rfl rfl (Qf jOne_st b 8 rfl rfl (Qf jOne_st b 8 rfl rfl (all_cons ?_ (all_cons ?_ (all_cons ?_ (all_cons ?_ (Qk jOne_st rfl (Qf jOne_st b 1 rfl rfl (Qf jOne_st b 8 rfl rfl (Qf jOne_st b 8 rfl rfl (all_nil) (fun _ _ _ _ h=>jOne_up (by decide) h)) (fun _ _ _ _ h=>jOne_up (by decide) h)) (fun _ _ _ _ h=>jOne_up (by decide) h)) (fun _ _ _ _ h=>jOne_up (by decide) h)))))) (fun _ _ _ _ h=>jOne_up (by decide) h)) (fun _ _ _ _ h=>jOne_up (by decide) h)) (fun _ _ _ _ h=>jOne_up (by decide) h)) (fun _ _ _ _ h=>jOne_up (by decide) h)) (fun _ _ _ _ h=>jOne_up (by decide) h)) (fun _ _ _ _ h=>jOne_up (by decide) h)) (fun _=>rfl) rfl ?_
       ·intro ρ y W L hw hn hLi hLd hb hd
        refine askQ jOne_st (fun _ _ h=>jOne_up (by decide) h) hb ?_
        have E166:=hw 166 5 rfl
        have h5:y 5 = _:=hd 5 rfl
        have m1:=hb.1.1
        refine asked_val (.slice S.H.ai S.H.fi.length S.H.ci) (want_free rfl) (by simp [execOp,go_sem,E166,h5,m1.cell,mkC]) rfl
       ·intro ρ y W L hw hn hLi hLd hb hd
        refine askQ jOne_st (fun _ _ h=>jOne_up (by decide) h) hb ?_
        have E11:ρ (.tmp 11) = .pointer (some ⟨gf0,0,none⟩):=(hn (.tmp 11) rfl).trans rfl
        have m3:=hb.1.2 _ List.mem_cons_self
        refine asked_val (.agg (pfC ⟨x,xa,xs,xc⟩)) (want_free rfl) (run_load_blk rfl E11 m3 Try.underlying71 rfl file_size) rfl
       ·intro ρ y W L hw hn hLi hLd hb hd; have E168:=hw 168 7 rfl; have h7:y 7 = _:=hd 7 rfl
        refine asked_runQ (.slice (some ⟨W.heap.size,0,none⟩) 1 1) (want_free rfl) ?_ (jOne_q (W':=W.alloc (.cells (pfC ⟨x,xa,xs,xc⟩) 71)) (by decide) ((Below.refl _ _).alloc (Nat.le_refl _) _) hb ⟨Nat.le_refl _,by unfold maxLen; omega,fun e=>(by cases e),RdV.new _ _ _⟩) trivial
        simp [execOp,go_sem,E168.trans h7,pfC]
       ·intro ρ y W L hw hn hLi hLd hb hd; have E167:=hw 167 6 rfl; have h6:y 6 = _:=hd 6 rfl; have E169:=hw 169 8 rfl; have h8:=hd 8 rfl
        have hm:=(hb.2.1 hLi).1
        obtain ⟨a,e,hx1,hx2⟩:=hb.2.2.1 (hLd 8 rfl) hLi
        have hpv:Own W b 71 2 (.slice S.H.ai S.H.fi.length S.H.ci) S.H.fi.length (S.H.fi.flatMap pfL):=hm.ma.st.own
        refine asked_appQ (want_free rfl) (run_app _ _ _ rfl b 71 _ 2 32 Try.underlying34 file_info rfl (by decide) (.slice S.H.ai S.H.fi.length S.H.ci) S.H.fi.length _ (E167.trans h6) hpv a 1 e (pfL ⟨x,xa,xs,xc⟩) (E169.trans hx1) hx2.nl hx2.le rfl hx2.rd (one_toList (pfC_one _)) (by unfold maxLen; omega) (by omega) hm.bs) (fun v W1 h=>jOne_p hLi hb h.2.1 hnb.out h.1 h.2.2) (fun _ _ _=>trivial)
       intro y W8 hbW8 hRW8
       have hy8:((fixR fun _=>True)).r (y 8) W8:=hRW8 8 (by decide)
       have hy9:((fixR fun _=>True)).r (y 9) W8:=hRW8 9 (by decide)
       clear hRW8
       obtain ⟨wq,hmq,hsq,hgq,hoq,hsnq⟩:=hbW8.2.2.2 rfl
       have hbk8:=hbW8.1.1
       have hoxq:=hsq.ownN ho.out.1 (fun g hg=>by
        obtain ⟨cs,hk⟩:=own_blk ho.out.1 g hg
        refine hm.kb_int hk ?_
        rw [hI.out.1.asl]
        exact (ho.out.2 g (by unfold pfV at hg; rw [oB_eq] at hg; exact hg)).2.1)
       have hs8:=hs.trans hsq
       obtain ⟨aq,cq,hyq,_⟩:=hoq.rd
       rw [hyq] at hoq hsnq ⊢
       clear hyq hbW8 hm hs fx hsq hks hnb hkaf
       go_wp2_with (refine wpList_stv rfl _ _ _ rfl b 8 _ [.slice aq (S.H.fi.length + 1) cq] rfl rfl rfl _ _ hbk8 (by show 8 + 1 ≤ 13; omega) (by kernel_rfl) (fun u hu=>by cases List.mem_singleton.1 hu; rfl) ?_)
       intro w17 hb17 hg17
       have hlen:(S.H.fi ++ [(⟨x,xa,xs,xc⟩:PF)]).length = S.H.fi.length + 1:=by simp
       have hm17:MkO w17 b b { S with H:={ S.H with ai:=aq,ci:=cq,fi:=S.H.fi ++ [(⟨x,xa,xs,xc⟩:PF)] } }:=hmq.appFi (p:=⟨x,xa,xs,xc⟩) hoxq (fun k p hp g hg hg'=>by
         unfold pfV at hg hg'
         rw [oB_eq] at hg hg'
         exact (ho.out.2 g hg').2.2 p (by rw [← hI.out.1.fi]; exact List.mem_of_getElem? hp) hg) (fun g hg=>by rw [hI.out.1.asl]; exact (ho.out.2 g hg).2.1) hgq (by rw [hlen]; exact hoq) (by rw [hlen]; exact hb17) hg17
       have hs17:MS w6 b S6 w17 { S with H:={ S.H with ai:=aq,ci:=cq,fi:=S.H.fi ++ [(⟨x,xa,xs,xc⟩:PF)] } }:=hs8.app hmq hmq.ma.st.own (by simp [klM]) hgq hg17 hsnq (fun x hx=>by
        rcases hx with hx | hx
        ·exact .inl (.inl hx)
        ·simp only [klM,List.mem_cons,List.not_mem_nil,or_false] at hx
         rcases hx with hx | hx | hx | hx | hx | hx | hx | hx | hx <;> first | exact .inr hx.symm | exact .inl (.inr (by simp [klM,hx])))
       have hs17:=hs6.trans hs17
       have hI17:Hid (Fil f s ct S3.H.asl (S.H.fi ++ [(⟨x,xa,xs,xc⟩:PF)]) bk qu { S with H:={ S.H with ai:=aq,ci:=cq,fi:=S.H.fi ++ [(⟨x,xa,xs,xc⟩:PF)] } } ∧ Fb ct bk qu ((S.H.fi ++ [(⟨x,xa,xs,xc⟩:PF)]).map PF.fi) [] ∧ (S.H.fi ++ [(⟨x,xa,xs,xc⟩:PF)]).length = q + 1 ∧ (q + 1 = 0 → bk = List.replicate ct zPg ∧ qu = [] ∧ (l = [] → S.l = []))):=Lib.hid (by
        have h9:=hI.out.1
        refine ⟨⟨h9.m,h9.asl,h9.sl,h9.sw,h9.dk,rfl,h9.ct,h9.ca,h9.sp,h9.T⟩,?_,by rw [hlen,h9.fi,hl0q.out],fun e=>absurd e (by omega)⟩
        rw [List.map_append,h9.fi]
        exact hI.out.2.1.file (s:=x) (by omega) (by omega) (by rw [hI.out.2.2,hC'.out]))
       clear hmq hgq hoq hsnq hbk8 hoxq hs8 hb17 hlen hg17
       go_wp2
       go_roundw
       case rel=>exact ⟨q + 1,_,bk,qu,by omega,by go_num,hm17,hs17,hI17⟩
       case measure=>simp [intOf]; omega
    ·have hqi:¬ (q:Int) < (N:Int):=by omega
     have hbd:Hid (Bd S.H.ma S.T ∧ FiM S ∧ S.H.sp.length = 0 ∧ S.H.m.fs.length = f ∧ S.H.dk.blocks.length = ct ∧ (l = [] → S.l = [] ∧ S.H.ma = mk0 f s ct (List.replicate ct zPg) [] [] ∧ S.T = [])):=Lib.hid (by
      obtain ⟨h1,h2,h3,h4⟩:=hI.out
      refine ⟨by rw [h1.ma,h1.T]; exact h2.bd (by rw [List.length_map]; omega) hf40 hs60,fun p hp=>(by rw [h1.sp] at hp; cases hp),by rw [h1.sp]; rfl,by rw [h1.m]; exact List.length_replicate,by rw [h1.dk]; exact h2.cl.1,fun e => ?_⟩
      have hN0:=(hl5.out e).1
      have hq0:q = 0:=by omega
      obtain ⟨k1,k2,k3⟩:=h4 hq0
      refine ⟨k3 e,?_,h1.T⟩
      have hf0:fi0 = []:=List.length_eq_zero_iff.1 (by omega)
      rw [h1.ma,k1,k2,hf0]; rfl)
     clear hI
     go_wp2_with fail
     refine (rpick_any S 2 b b _ hm (by omega)).mono ?_
     rintro r w6 ⟨z,a6,c6,l6,rfl,hm6,hs6,hz,hz0⟩
     have hs6:=hs.trans hs6
     have hzw:IntKind.i64.wrap (1 + z) = 1 + z:=IntWalk.i64_in _ (by omega)
     obtain ⟨M,hM⟩:∃ M:Nat,1 + z = (M:Int):=⟨(1 + z).toNat,by omega⟩
     have hM2:1 ≤ M ∧ M ≤ 2:=by omega
     have hbd6:Hid (Bd (S.lst a6 c6 l6).H.ma (S.lst a6 c6 l6).T ∧ FiM (S.lst a6 c6 l6) ∧ (S.lst a6 c6 l6).H.sp.length = 0 ∧ (S.lst a6 c6 l6).H.m.fs.length = f ∧ (S.lst a6 c6 l6).H.dk.blocks.length = ct ∧ (l = [] → (S.lst a6 c6 l6).l = [] ∧ (S.lst a6 c6 l6).H.ma = mk0 f s ct (List.replicate ct zPg) [] [] ∧ (S.lst a6 c6 l6).T = [])):=Lib.hid
      ⟨hbd.out.1,hbd.out.2.1,hbd.out.2.2.1,hbd.out.2.2.2.1,hbd.out.2.2.2.2.1,fun e=>⟨(hz0 (hbd.out.2.2.2.2.2 e).1).2,(hbd.out.2.2.2.2.2 e).2⟩⟩
     have hM1:Hid (l = [] → M = 1):=Lib.hid (fun e=>by have:=(hz0 (hbd.out.2.2.2.2.2 e).1).1; omega)
     rw [hM] at hzw
     clear hm hs hbd hz hz0
     generalize S.lst a6 c6 l6 = S6 at hm6 hs6 hbd6
     go_upto_region 34 with (fail)
     clear hM hzw
     go_loopw [179] (fun k wr => ∃ (p:Nat) (S:MW),p ≤ M ∧ k = .int .i64 p ∧ MkO wr b b S ∧ MS w4 b S3 wr S ∧ Hid (Bd S.H.ma S.T ∧ FiM S ∧ S.H.sp.length = p ∧ S.H.m.fs.length = f ∧ S.H.dk.blocks.length = ct ∧ (l = [] → S.l = [] ∧ ((p = 0 → S.H.ma = mk0 f s ct (List.replicate ct zPg) [] [] ∧ S.T = []) ∧ (p = 1 → S.H.ma = { mk0 f s ct (List.replicate ct zPg) [] [] with sp:=[⟨true,[],zTb⟩] } ∧ S.T = [List.replicate 64 zEn]))))) (fun k _=>M - (intOf k).toNat)
     case atStart=>exact ⟨0,S6,Nat.zero_le _,rfl,hm6,hs6,Lib.hid ⟨hbd6.out.1,hbd6.out.2.1,hbd6.out.2.2.1,hbd6.out.2.2.2.1,hbd6.out.2.2.2.2.1,fun e=>⟨(hbd6.out.2.2.2.2.2 e).1,fun _=>(hbd6.out.2.2.2.2.2 e).2,fun h=>(by cases h)⟩⟩⟩
     case round=>
      clear hm6 hs6 hbd6
      obtain ⟨p,S,hp,rfl,hm,hs,hI⟩:=hrel
      by_cases hpM:p < M
      ·have hpi:(p:Int) < (M:Int):=by omega
       have hmoreR:∀ (S' : MW),More S S' → (l = [] → p = 0 → S'.l = [] ∧ S'.H.ma = { S.H.ma with sp:=S.H.ma.sp ++ [⟨true,[],zTb⟩] } ∧ S'.T = S.T ++ [List.replicate 64 zEn]) → Bd S'.H.ma S'.T ∧ FiM S' ∧ S'.H.sp.length = p + 1 ∧ S'.H.m.fs.length = f ∧ S'.H.dk.blocks.length = ct ∧ (l = [] → S'.l = [] ∧ ((p + 1 = 0 → S'.H.ma = mk0 f s ct (List.replicate ct zPg) [] [] ∧ S'.T = []) ∧ (p + 1 = 1 → S'.H.ma = { mk0 f s ct (List.replicate ct zPg) [] [] with sp:=[⟨true,[],zTb⟩] } ∧ S'.T = [List.replicate 64 zEn]))):=fun S' hMo hn=>by
        obtain ⟨h1,h2,h3,h4,h5,h6⟩:=hI.out
        refine ⟨hMo.bd,hMo.fm,by rw [hMo.sp,h3],by rw [hMo.fs,h4],by rw [hMo.dk,h5],fun e => ?_⟩
        have hp0:p = 0:=by have:=hM1.out e; omega
        obtain ⟨k1,k2,k3⟩:=hn e hp0
        obtain ⟨q1,q2⟩:=(h6 e).2.1 hp0
        refine ⟨k1,fun h=>absurd h (by omega),fun _=>⟨by rw [k2,q1]; rfl,by rw [k3,q2]; rfl⟩⟩
       have hmoreR':=Lib.hid hmoreR
       clear hmoreR
       by_cases hp1:p = 1
       ·subst hp1
        go_wp2_with fail
        refine (rpick_any S 2 b b _ hm (by omega)).mono ?_
        rintro r w7 ⟨z2,a7,c7,l7,rfl,hm7,hs7,hz2,_⟩
        have hs7:=hs.trans hs7
        clear hm hs
        by_cases hz1:z2 = 1
        ·subst hz1
         go_wp2_with fail
         refine (rfork_any (S.lst a7 c7 l7) b b _ hm7 hI.out.1 hI.out.2.1 hI.out.2.2.1).mono ?_
         rintro r w8 ⟨S8,rfl,hm8,hs8,hMo⟩
         have hs8:=hs7.trans hs8
         have hI8:=Lib.hid (hmoreR'.out S8 ⟨hMo.bd,hMo.fm,hMo.fi,hMo.ct,hMo.dk,hMo.sp,hMo.fs⟩ (fun _ h=>absurd h (by decide)))
         clear hm7 hs7 hMo hI
         go_wp2
         go_roundw
         case rel=>exact ⟨2,S8,by omega,by go_num,hm8,hs8,hI8⟩
         case measure=>simp [intOf]; omega
        ·have hzb:(z2 == 1) = false:=by simpa using hz1
         go_wp2_with fail
         refine (rspace_any (S.lst a7 c7 l7) b b _ hm7 hI.out.1 hI.out.2.1 (by have:=hI.out.2.2.1; show S.H.sp.length < 4; omega)).mono ?_
         rintro r w8 ⟨S8,rfl,hm8,hs8,hMo,_⟩
         have hs8:=hs7.trans hs8
         have hI8:=Lib.hid (hmoreR'.out S8 ⟨hMo.bd,hMo.fm,hMo.fi,hMo.ct,hMo.dk,hMo.sp,hMo.fs⟩ (fun _ h=>absurd h (by decide)))
         clear hm7 hs7 hMo hI
         go_wp2
         go_roundw
         case rel=>exact ⟨2,S8,by omega,by go_num,hm8,hs8,hI8⟩
         case measure=>simp [intOf]; omega
       ·have hp0:p = 0:=by omega
        subst hp0
        go_wp2_with fail
        refine (rspace_any S b b _ hm hI.out.1 hI.out.2.1 (by have:=hI.out.2.2.1; omega)).mono ?_
        rintro r w8 ⟨S8,rfl,hm8,hs8,hMo,hnil⟩
        have hs8:=hs.trans hs8
        have hI8:=Lib.hid (hmoreR'.out S8 hMo (fun e _=>hnil (hI.out.2.2.2.2.2 e).1))
        clear hm hs hMo hI hnil
        go_wp2
        go_roundw
        case rel=>exact ⟨0 + 1,S8,by omega,by go_num,hm8,hs8,Lib.hid ⟨hI8.out.1,hI8.out.2.1,hI8.out.2.2.1,hI8.out.2.2.2.1,hI8.out.2.2.2.2.1,fun e=>⟨(hI8.out.2.2.2.2.2 e).1,(hI8.out.2.2.2.2.2 e).2.1,fun _=>(hI8.out.2.2.2.2.2 e).2.2 (by first | trivial | rfl)⟩⟩⟩
        case measure=>simp [intOf]; omega
      ·have hpi:¬ (p:Int) < (M:Int):=by omega
       have hpe:M = p:=by omega
       subst hpe
       have hT6:Hid (Bd S.H.ma S.T ∧ S.T.length = M ∧ S.H.ma.sp.length = M):=Lib.hid (by
        have h1:=hI.out.2.2.1
        have h2:S.H.ma.sp.length = S.H.sp.length:=List.length_map _
        exact ⟨hI.out.1,by rw [hI.out.1.ok.len]; omega,by omega⟩)
       have hI0:Hid (S.H.ma = tabs S.H.ma S.T 0 ∧ S.T = S.T ∧ S.H.sp.length = M ∧ FiM S ∧ S.H.m.fs.length = f ∧ S.H.dk.blocks.length = ct ∧ (l = [] → S.l = [])):=Lib.hid ⟨rfl,rfl,hI.out.2.2.1,hI.out.2.1,hI.out.2.2.2.1,hI.out.2.2.2.2.1,fun e=>(hI.out.2.2.2.2.2 e).1⟩
       have hnew:Hid (l = [] → fullM S.H.ma S.T = newMa f s ct):=Lib.hid (fun e=>by
        obtain ⟨k1,k2⟩:=(hI.out.2.2.2.2.2 e).2.2 (hM1.out e)
        rw [k1,k2]; exact full_new hf40 hs60 hc80)
       obtain ⟨m5,hm5⟩:∃ m,S.H.ma = m:=⟨_,rfl⟩
       obtain ⟨T5,hT5⟩:∃ T,S.T = T:=⟨_,rfl⟩
       have hI1:Hid (S.H.ma = tabs m5 T5 0 ∧ S.T = T5 ∧ S.H.sp.length = M ∧ FiM S ∧ S.H.m.fs.length = f ∧ S.H.dk.blocks.length = ct ∧ (l = [] → S.l = [])):=Lib.hid (by rw [← hm5,← hT5]; exact hI0.out)
       rw [hm5,hT5] at hT6 hnew
       have hspl:S.H.sp.length = M:=hI.out.2.2.1
       clear hI hI0 hm5 hT5
       have hc:=hm.blk.cell
       unfold mkC at hc
       rw [hspl] at hc
       clear hspl
       go_upto_region 41 with (fail)
       clear hc
       go_loopw [200] (fun k wr => ∃ (q:Nat) (S:MW),q ≤ M ∧ k = .int .i64 q ∧ MkO wr b b S ∧ MS w4 b S3 wr S ∧ Hid (S.H.ma = tabs m5 T5 q ∧ S.T = T5 ∧ S.H.sp.length = M ∧ FiM S ∧ S.H.m.fs.length = f ∧ S.H.dk.blocks.length = ct ∧ (l = [] → S.l = []))) (fun k _=>M - (intOf k).toNat)
       case atStart=>exact ⟨0,S,Nat.zero_le _,rfl,hm,hs,hI1⟩
       case round=>
        clear hm hs hI1
        obtain ⟨q,S,hq,rfl,hm,hs,hI⟩:=hrel
        by_cases hqM:q < M
        ·have hqi:(q:Int) < (M:Int):=by omega
         obtain ⟨P,hP⟩:∃ P,S.H.sp[q]? = some P:=⟨_,List.getElem?_eq_getElem (by rw [hI.out.2.2.1]; exact hqM)⟩
         obtain ⟨g,off,cur0,hap,_,_,_,_⟩:=hm.setTb hP
         have hTl:S.T.length = M:=by rw [hI.out.2.1]; exact hT6.out.2.1
         obtain ⟨gt,ot,ct',curt,hvt,_,hgt,hgts,hgtc,_⟩:=hm.tt.put tL_len (by decide) q (by omega)
         have hab:S.ab = some ⟨gt,ot,none⟩:=(Value.slice.inj hvt).1
         have h64:(lstT T5 q).length = 64:=hT6.out.1.ok.l64 (by rw [hT6.out.2.2]; exact hqM)
         have hTq:S.T[q]'(by omega) = lstT T5 q:=by rw [← MkO.lst_len (by omega),hI.out.2.1]
         have hrdT:∀ W,Below wr.heap.size wr W → RdV W (some ⟨gt,ot + q * 192,none⟩) (flC (lstT T5 q)).toList:=fun W hb j u hj=>by
          refine ⟨gt,ot + q * 192,rfl,?_⟩
          have e1:=hgtc j u (by rw [hTq,tL_fl h64]; exact hj)
          rw [hgt.cell] at e1
          rw [(hgt.ext hb).cell]; exact e1
         have hsp':=Lib.hid hI.out.2.2.1
         have hTl':=Lib.hid hTl
         have hap':=Lib.hid hap
         have hab':=Lib.hid hab
         have h64':=Lib.hid h64
         have hsz64:(flC (lstT T5 q)).toList.length = 192:=by rw [Array.length_toList,flC_size,h64]
         have hsz':=Lib.hid hsz64
         have hP':=Lib.hid hP
         have hrdT':=Lib.hid hrdT
         clear hvt hgtc hTq hTl hap hab h64 hsz64 hP hrdT hgt hgts
         go_upto_region 43 with (fail)
         refine wp_growP 16 [_,_,_,_,_,_,_,_,_,_,_,_,_,.r 13 ((tabO b (tabOf (lstT T5 q)))),_,_] (Gk rfl (Gk rfl (Gf b 1 rfl rfl (Gf b 11 rfl rfl (Gl hm.blk (V:=.slice (some ⟨g,off,none⟩) M S.H.cp) (by simp [mkC,hap'.out,hsp'.out]) rfl rfl rfl rfl (Gk rfl (Gk rfl (Gk rfl (Gf b 12 rfl rfl (Gl hm.blk (V:=.slice (some ⟨gt,ot,none⟩) M S.cb) (by simp [mkC,hab'.out,hTl'.out]) rfl rfl rfl rfl (Gk rfl (Gr (.pointer (some ⟨gt,ot + q * 192,none⟩)) (fun ρ y W hb hk=>(run_idx rfl (kx_at rfl hk) (kx_at rfl hk) hqM Try.underlying87 arr64_size)) rfl rfl (Gr (.agg (flC (lstT T5 q))) (fun ρ y W hb hk=>(run_load_rd rfl (kx_at rfl hk) (hrdT'.out W hb) Try.underlying95 rfl (arr64_size.trans (congrArg some hsz'.out.symm)))) rfl rfl (all_cons ?_ (Gr (.pointer (some ⟨g,off + q * 10,none⟩)) (fun ρ y W hb hk=>(run_idx rfl (kx_at rfl hk) (kx_at rfl hk) hqM Try.underlying38 space_size)) rfl rfl (Gf g (off + q * 10 + 2) rfl rfl (all_nil))))))))))))))))) (fun _=>rfl) rfl ?_
         ·intro ρ y W hw hn hb hd; have E215:=hw 215 12 rfl; have h12:y 12 = _:=hd 12 rfl
          have EF:∀ f,ρ (.func f) = .func (.func f) #[] #[]:=fun f=>hn (.func f) trivial
          refine asked_call _ _ (want_free rfl) (run_call rfl (EF _) Try.func34 (by kernel_rfl) (by kernel_rfl) (by simp only [List.map_toArray,List.map_cons,List.map_nil,E215,h12,EF]; rfl)) ?_
          refine (ttable_any (lstT T5 q) W h64'.out).mono ?_
          rintro e w1 ⟨ca,rfl,hO,hb1⟩
          exact ⟨_,rfl,hb1,⟨_,rfl,hO.mono (hm.below hb).bs⟩⟩
         intro y W9 hbW9 hRW9
         have hy13:=hRW9 13 (by decide)
         clear hRW9
         obtain ⟨cs,hy13e,hTO⟩:∃ cs,y 13 = .agg cs ∧ TbO W9 b cs (tabOf (lstT T5 q)):=hy13
         obtain ⟨v,rfl⟩:=ts_of hTO.sz
         rw [hy13e]
         have hm9:=hm.below hbW9
         have hs9:=hs.below hbW9
         clear hm hs hbW9 hy13e
         obtain ⟨g2,off2,cur,hap2,hgB2,hblk2,hfit2,hset2⟩:=hm9.setTb hP'.out
         rw [hap'.out] at hap2
         obtain ⟨rfl,rfl⟩:g = g2 ∧ off = off2:=by
          have:=Option.some.inj hap2
          exact ⟨congrArg Addr.block this,congrArg Addr.off this⟩
         have hkb9:kbM b S g:=.inr (by simp [klM,hap'.out,oB,Value.ownBlock])
         clear hap2
         go_wp2_with (refine wpList_stv rfl _ _ _ rfl g (off + q * 10 + 2) _ (tsC v).toList rfl rfl rfl _ _ hblk2 (by show off + q * 10 + 2 + 8 ≤ cur.size; exact hfit2) (by kernel_rfl) (ts_one hTO.rd) ?_)
         intro w10 hb10 hg10
         have hm10:=hset2 w10 v _ hTO hb10 hg10
         have hs10:MS w4 b S3 w10 { S with H:={ S.H with sp:=S.H.sp.set q { P with ts:=v,tb:=tabOf (lstT T5 q) } } }:=hs9.put hg10 hkb9 (fun x hx => .inl hx)
         have hI10:Hid (({ S with H:={ S.H with sp:=S.H.sp.set q { P with ts:=v,tb:=tabOf (lstT T5 q) } } }:MW).H.ma = tabs m5 T5 (q + 1) ∧ S.T = T5 ∧ (S.H.sp.set q { P with ts:=v,tb:=tabOf (lstT T5 q) }).length = M ∧ FiM { S with H:={ S.H with sp:=S.H.sp.set q { P with ts:=v,tb:=tabOf (lstT T5 q) } } } ∧ S.H.m.fs.length = f ∧ S.H.dk.blocks.length = ct ∧ (l = [] → S.l = [])):=Lib.hid (by
          obtain ⟨q1,q2,q3,q4,q5⟩:=hI.out
          refine ⟨?_,q2,by rw [List.length_set]; exact q3,fun p hp n x hx => ?_,q5⟩
          ·show MH.ma { S.H with sp:=S.H.sp.set q { P with ts:=v,tb:=tabOf (lstT T5 q) } } = _
           rw [setTb_H hP'.out,q1]; rfl
          ·rcases List.mem_or_eq_of_mem_set hp with hp | rfl
           ·exact q4 p hp n x hx
           ·exact q4 P (List.mem_of_getElem? hP'.out) n x hx)
         clear hm9 hs9 hblk2 hfit2 hset2 hb10 hg10 hTO hI hkb9
         go_wp2
         go_roundw
         case rel=>exact ⟨q + 1,_,by omega,by go_num,hm10,hs10,hI10⟩
         case measure=>simp [intOf]; omega
        ·have hqi:¬ (q:Int) < (M:Int):=by omega
         have hIm:Hid (S.H.ma = fullM m5 T5):=Lib.hid (by
          have e:q = m5.sp.length:=by rw [hT6.out.2.2]; omega
          rw [hI.out.1,e]; exact tabs_end)
         have hI7:Hid (Rt S.H.ma ∧ Co S.H.ma ∧ FiM S ∧ S.H.m.fs.length = f ∧ S.H.dk.blocks.length = ct ∧ 1 ≤ S.H.sp.length ∧ (l = [] → S.H.ma = newMa f s ct ∧ S.l = [])):=Lib.hid (by
          obtain ⟨q1,q2,q3,q4,q5,q6,q7⟩:=hI.out
          exact ⟨by rw [hIm.out]; exact hT6.out.1.rt,by rw [hIm.out]; exact hT6.out.1.co,q4,q5,q6,by omega,fun e=>⟨by rw [hIm.out]; exact hnew.out e,q7 e⟩⟩)
         clear hI hIm
         by_cases hf0:0 < f
         ·have hfi:(0:Int) < (f:Int):=by omega
          go_wp2_with fail
          refine (rpick_any S (f:Int) b b _ hm (by omega)).mono ?_
          rintro r w11 ⟨x,a11,c11,l11,rfl,hm11,hs11,hx,hx0⟩
          have hs11:=hs.trans hs11
          clear hm hs
          go_wp2_with (refine wpList_stv rfl _ _ _ rfl b 2 _ [.int .i64 x] rfl rfl rfl _ _ hm11.blk (by show 2 + 1 ≤ 13; omega) (by kernel_rfl) (fun u hu=>by cases List.mem_singleton.1 hu; rfl) ?_)
          intro w12 hb12 hg12
          have hm:=hm11.setH hb12 hg12
          have hs:MS w4 b S3 w12 { (S.lst a11 c11 l11) with H:={ (S.lst a11 c11 l11).H with m:=⟨(S.lst a11 c11 l11).H.m.fs,x⟩ } }:=hs11.put hg12 (.inl rfl) (fun x hx => .inl hx)
          have hI:Hid (Rt ({ (S.lst a11 c11 l11) with H:={ (S.lst a11 c11 l11).H with m:=⟨(S.lst a11 c11 l11).H.m.fs,x⟩ } }:MW).H.ma ∧ Co ({ (S.lst a11 c11 l11) with H:={ (S.lst a11 c11 l11).H with m:=⟨(S.lst a11 c11 l11).H.m.fs,x⟩ } }:MW).H.ma ∧ FiM ({ (S.lst a11 c11 l11) with H:={ (S.lst a11 c11 l11).H with m:=⟨(S.lst a11 c11 l11).H.m.fs,x⟩ } }:MW) ∧ ({ (S.lst a11 c11 l11) with H:={ (S.lst a11 c11 l11).H with m:=⟨(S.lst a11 c11 l11).H.m.fs,x⟩ } }:MW).H.m.fs.length = f ∧ ({ (S.lst a11 c11 l11) with H:={ (S.lst a11 c11 l11).H with m:=⟨(S.lst a11 c11 l11).H.m.fs,x⟩ } }:MW).H.dk.blocks.length = ct ∧ 1 ≤ ({ (S.lst a11 c11 l11) with H:={ (S.lst a11 c11 l11).H with m:=⟨(S.lst a11 c11 l11).H.m.fs,x⟩ } }:MW).H.sp.length ∧ (l = [] → ({ (S.lst a11 c11 l11) with H:={ (S.lst a11 c11 l11).H with m:=⟨(S.lst a11 c11 l11).H.m.fs,x⟩ } }:MW).H.ma = newMa f s ct)):=Lib.hid (by
           obtain ⟨q1,q2,q3,q4,q5,q6,q7⟩:=hI7.out
           have hwm:=(wrongM_iff _).1 q1.pt.fr
           have hh:=hand_ok q1 q2 (x:=x) ((wrongM_iff _).2 ⟨hwm.1,hwm.2.1,hx.1,by
            rcases hx.2.2 with h | h
            ·exact .inr (by show x < (S.H.m.fs.length:Int); omega)
            ·exact .inl h⟩)
           refine ⟨hh.1,hh.2,q3,q4,q5,q6,fun e => ?_⟩
           obtain ⟨k1,k2⟩:=q7 e
           have hx00:x = 0:=(hx0 k2).1
           subst hx00
           have k3:S.H.m.hand = 0:=by
            have:=congrArg (fun m:Ma=>m.m.hand) k1
            have e2:(newMa f s ct).m.hand = 0:=by
             unfold newMa newM
             rw [if_pos ⟨⟨by omega,by omega⟩,⟨by omega,by omega⟩,by omega,by omega⟩,if_pos (by omega)]
            exact this.trans e2
           rw [← k1]
           show MH.ma { S.H with m:=⟨S.H.m.fs,0⟩ } = MH.ma S.H
           have e3:(⟨S.H.m.fs,0⟩:Mem) = S.H.m:=by rw [← k3]
           rw [e3])
          clear hm11 hs11 hb12 hg12 hI7 hx hx0
          generalize { (S.lst a11 c11 l11) with H:={ (S.lst a11 c11 l11).H with m:=⟨(S.lst a11 c11 l11).H.m.fs,x⟩ } } = S13 at hm hs hI
          ·skip
           have bz:Blk w12 w.heap.size (mhC noH) 40:=hs.blkN bx4'.out hnb4.out
           have hB9:=Lib.hid (Nat.le_of_eq hbb.out)
           go_wp2_with (first | (refine wpList_ldg _ _ rfl b 1 rfl rfl _ hm.rdM _ Try.underlying40 rfl machine_size ?_) | (refine wpList_stw rfl _ _ _ rfl w.heap.size (mhC S13.H) rfl rfl _ _ bz rfl machine_size (mhC_one _) ?_))
           intro wE bE gE
           have hE:Hid (MaO wE w.heap.size S13.H ∧ Below w.heap.size w wE):=Lib.hid ⟨(hm.ma.keep bz (by decide) gE).mono (by have:=hB9.out; omega),(below_two hbe4.out (hto.out _ _ hs) (by have:=hB9.out; omega) (Nat.le_refl _)).grown gE (Nat.le_trans (Nat.le_trans (by omega) hszl4) hs.size) (fun k hk=>by cases hk; exact Nat.le_refl _)⟩
           clear hm hs bz
           go_wp2
           refine bodyPost_ret (v:=.agg (mhC S13.H)) (results_c Try.results9 _ _ w.heap.size _ _ _ rfl bE Try.underlying40 rfl machine_size) rfl ?_
           obtain ⟨q1,q2,q3,q4,q5,q6,q7⟩:=hI.out
           exact ⟨S13.H,rfl,hE.out.1,hE.out.2,q1,q2,q3,by rw [hcl.out.1]; exact q4,by rw [hcl.out.2.2]; exact q5,q6,fun e=>by rw [hcl.out.1,hcl.out.2.1,hcl.out.2.2]; exact q7 e⟩
         ·have hfi:¬ (0:Int) < (f:Int):=by omega
          have hI:Hid (Rt S.H.ma ∧ Co S.H.ma ∧ FiM S ∧ S.H.m.fs.length = f ∧ S.H.dk.blocks.length = ct ∧ 1 ≤ S.H.sp.length ∧ (l = [] → S.H.ma = newMa f s ct)):=Lib.hid ⟨hI7.out.1,hI7.out.2.1,hI7.out.2.2.1,hI7.out.2.2.2.1,hI7.out.2.2.2.2.1,hI7.out.2.2.2.2.2.1,fun e=>(hI7.out.2.2.2.2.2.2 e).1⟩
          clear hI7
          ·skip
           have bz:Blk wr w.heap.size (mhC noH) 40:=hs.blkN bx4'.out hnb4.out
           have hB9:=Lib.hid (Nat.le_of_eq hbb.out)
           go_wp2_with (first | (refine wpList_ldg _ _ rfl b 1 rfl rfl _ hm.rdM _ Try.underlying40 rfl machine_size ?_) | (refine wpList_stw rfl _ _ _ rfl w.heap.size (mhC S.H) rfl rfl _ _ bz rfl machine_size (mhC_one _) ?_))
           intro wE bE gE
           have hE:Hid (MaO wE w.heap.size S.H ∧ Below w.heap.size w wE):=Lib.hid ⟨(hm.ma.keep bz (by decide) gE).mono (by have:=hB9.out; omega),(below_two hbe4.out (hto.out _ _ hs) (by have:=hB9.out; omega) (Nat.le_refl _)).grown gE (Nat.le_trans (Nat.le_trans (by omega) hszl4) hs.size) (fun k hk=>by cases hk; exact Nat.le_refl _)⟩
           clear hm hs bz
           go_wp2
           refine bodyPost_ret (v:=.agg (mhC S.H)) (results_c Try.results9 _ _ w.heap.size _ _ _ rfl bE Try.underlying40 rfl machine_size) rfl ?_
           obtain ⟨q1,q2,q3,q4,q5,q6,q7⟩:=hI.out
           exact ⟨S.H,rfl,hE.out.1,hE.out.2,q1,q2,q3,by rw [hcl.out.1]; exact q4,by rw [hcl.out.2.2]; exact q5,q6,fun e=>by rw [hcl.out.1,hcl.out.2.1,hcl.out.2.2]; exact q7 e⟩
theorem countP_same {α:Type} (q:α → Bool) {l l' : List α} (hl:l'.length = l.length) (h:∀ i (h1:i < l.length) (h2:i < l'.length),q l'[i] = q l[i]):l'.countP q = l.countP q:=by
 have e:l'.map q = l.map q:=by
  apply List.ext_getElem
  ·simpa using hl
  ·intro i h1 h2
   simp only [List.getElem_map]
   exact h i (by simpa using h2) (by simpa using h1)
 have e2:=congrArg (fun x=>x.countP id) e
 simpa [List.countP_map] using e2
theorem frN_get {m:Ma} {i:Nat} (h:i < m.m.fs.length):frN m i = m.m.fs[i]:=by unfold frN; rw [List.getD_eq_getElem?_getD,List.getElem?_eq_getElem h]; rfl
theorem slN_get {m:Ma} {i:Nat} (h:i < m.sl.length):slN m i = m.sl[i]:=by unfold slN; rw [List.getD_eq_getElem?_getD,List.getElem?_eq_getElem h]; rfl
theorem Forked.free {m m' : Ma} {p q:Nat} (h:Forked m m' p q):freeFr m'.m.fs = freeFr m.m.fs ∧ freeSl m'.sl = freeSl m.sl:=by
 refine ⟨countP_same _ h.len fun i h1 h2 => ?_,countP_same _ h.sll fun i h1 h2 => ?_⟩
 ·have:=(h.fr i).2.2.2.2.2
  rw [frN_get h1,frN_get h2] at this
  simp only [this]
 ·have:=h.sl i
  rw [slN_get h1,slN_get h2] at this
  simp only [this]
theorem new2:newMa (clN 2 40) (clN 2 60) (clN 2 80) = ⟨newM 2,newS 2,newD 2,newD 2,⟨[],2⟩,[],[⟨true,[],zTb⟩]⟩:=by
 have e:clN 2 40 = 2 ∧ clN 2 60 = 2 ∧ clN 2 80 = 2:=by decide
 rw [e.1,e.2.1,e.2.2]
 rfl
theorem alive10 (w:World):Calls Try.prog 21 #[] w fun r w'=>r = .returned (.bool true) ∧ Below w.heap.size w w':=by
 go_enter Try.func21,Try.ntmps21
 go_wp2_with fail
 refine (rbuild_any 2 2 2 none 0 [] w ⟨Nat.le_refl _,by decide,fun _=>rfl,fun i u h=>(by simp at h)⟩).mono ?_
 rintro r w1 ⟨H,rfl,ho,hb1,hRt,hCo,_,_,_,_,hnew⟩
 have hma:H.ma = ⟨newM 2,newS 2,newD 2,newD 2,⟨[],2⟩,[],[⟨true,[],zTb⟩]⟩:=(hnew rfl).trans new2
 have e6:H.sp.length = 1:=by rw [← spH,hma]; rfl
 have hlv:(spN H.ma 0).lv = true:=by rw [hma]; rfl
 have hnb:Hid (¬ badP H 0):=Lib.hid (by
  rintro (e | e | e)
  ·exact absurd e (by decide)
  ·rw [e6] at e; exact absurd e (by decide)
  ·exact absurd (hlv.symm.trans e) (by decide))
 have hR:=Lib.hid hRt
 have hC:=Lib.hid hCo
 have h6:=Lib.hid (And.intro e6 hlv)
 have hr1:=ho.rd
 clear hnew hma e6 hlv hRt hCo ho
 go_wp2_with (refine wpList_stn rfl _ _ _ rfl (mhC H) rfl rfl rfl machine_size (mhC_one _) ?_)
 intro w2 hb2 bx2
 have hr2:=hr1.below hb2
 have hbr2:=below_next hb1 hb2
 clear hr1 hb1 hb2
 go_wp2_with (refine wpList_ldg _ _ rfl w1.heap.size 0 rfl rfl _ bx2.rd _ Try.underlying40 rfl machine_size ?_)
 refine (fork_any H 0 _ hr2 hR.out hC.out).mono ?_
 rintro r w3 ⟨hb3,hcase⟩
 rcases hcase with ⟨e,_⟩ | ⟨_,_,e,_⟩ | ⟨_,K,q,hq,rfl,ho3,hF⟩
 ·exact absurd e hnb.out
 ·have:=h6.out.1; omega
 have hq1:q = 1:=by
  rcases hq with ⟨e,_⟩ | ⟨e1,e2⟩
  ·rw [e,spH]; exact h6.out.1
  ·rw [spH] at e1
   have:=h6.out.1
   obtain rfl:q = 0:=by omega
   exact absurd (h6.out.2.symm.trans e2) (by decide)
 subst hq1
 have hF':=Lib.hid hF
 have hr3:=ho3.rd
 have hbr3:=below_next hbr2 hb3
 have hl3:K.sp.length = 2:=by rw [← spH,hF.spl,spH,h6.out.1]; rfl
 have hl3':=Lib.hid hl3
 clear hq hF bx2 hr2 hbr2 hb3 ho3 hl3
 go_wp2_with (refine wpList_stn rfl _ _ _ rfl (mhC K) rfl rfl rfl machine_size (mhC_one _) ?_)
 intro w4 hb4 bx4
 have hr4:=hr3.below hb4
 have hbr4:=below_next hbr3 hb4
 have hc:=bx4.cell
 unfold mhC at hc
 rw [hl3'.out] at hc
 clear hr3 hbr3 hb4
 go_wp2_with (refine wpList_ldg _ _ rfl w3.heap.size 0 rfl rfl _ bx4.rd _ Try.underlying40 rfl machine_size ?_)
 refine (exit_any K 0 _ hr4 hF'.out.rt hF'.out.co).mono ?_
 rintro r w5 ⟨hb5,hcase⟩
 have hlK:(spN K.ma 0).lv = true:=((hF'.out.spo 0 (by decide)).1).trans h6.out.2
 rcases hcase with ⟨e,_⟩ | ⟨_,G,rfl,ho5,hG⟩
 ·exfalso
  rcases e with e | e | e
  ·exact absurd e (by decide)
  ·rw [hl3'.out] at e; exact absurd e (by decide)
  ·exact absurd (hlK.symm.trans e) (by decide)
 have hlG:G.sp.length = 2:=by rw [← spH,hG.spl,spH,hl3'.out]
 have hr5:=ho5.rd
 have hbr5:=below_next hbr4 hb5
 obtain ⟨P0,hP0⟩:∃ P,G.sp[0]? = some P:=⟨_,List.getElem?_eq_getElem (by omega)⟩
 obtain ⟨P1,hP1⟩:∃ P,G.sp[1]? = some P:=⟨_,List.getElem?_eq_getElem (by omega)⟩
 have v0:P0.lv = false:=by
  have:=hG.sp 0 rfl
  rw [spN_H hP0] at this
  exact congrArg Sp.lv this
 have v1:P1.lv = true:=by
  have:=(hG.spo 1 (by decide)).1
  rw [spN_H hP1] at this
  exact this.trans hF'.out.spq.1
 have hPs:=Lib.hid (And.intro hP0 (And.intro hP1 (And.intro v0 v1)))
 have hlG':=Lib.hid hlG
 clear hc bx4 hr4 hbr4 hb5 ho5 hG hP0 hP1 v0 v1 hlG hlK
 go_wp2_with (refine wpList_stn rfl _ _ _ rfl (mhC G) rfl rfl rfl machine_size (mhC_one _) ?_)
 intro w6 hb6 bx6
 have hr6:=hr5.below hb6
 have hbr6:=below_next hbr5 hb6
 have hc:=bx6.cell
 unfold mhC at hc
 rw [hlG'.out] at hc
 obtain ⟨b0,o0,P0',ha0,hq0,hd0⟩:=ps_at hr6.sp.rd 0 (by rw [hlG'.out]; decide)
 obtain rfl:P0' = P0:=by rw [hPs.out.1] at hq0; exact (Option.some.inj hq0).symm
 obtain ⟨b1,o1,P1',ha1,hq1,hd1⟩:=ps_at hr6.sp.rd 1 (by rw [hlG'.out]; decide)
 obtain rfl:P1' = P1:=by rw [hPs.out.2.1] at hq1; exact (Option.some.inj hq1).symm
 rw [ha0] at ha1
 cases ha1
 rw [ha0] at hc
 have c0:w6.cell? ⟨b0,o0,none⟩ = some (.bool false):=by
  obtain ⟨b',o',e,hcc⟩:=hd0 0 _ rfl
  cases e
  rw [← hPs.out.2.2.1]
  simpa using hcc
 have c1:w6.cell? ⟨b0,o0 + 10,none⟩ = some (.bool true):=by
  obtain ⟨b',o',e,hcc⟩:=hd1 0 _ rfl
  cases e
  rw [← hPs.out.2.2.2]
  simpa using hcc
 clear hr5 hbr5 hb6 hq0 hq1 hd0 hd1 ha0 hr6 bx6
 go_wp2
 go_ret
 exact ⟨rfl,hbr6⟩
theorem run_eqII {P:Program} (w:World) (d:Nat) (t e:TypeId) (ht:P.underlying t = some (.array 2 e)) (he:P.underlying e = some (.int .i64)) (hsz:(P.info? e).map (·.size) = some 1) (a b:Int) :
  (Op.equalIn (d + 2) t (.agg #[.int .i64 a,.int .i64 b]) (.agg #[.int .i64 a,.int .i64 b])).run P w = .ok true w:=by
 cases hq:P.info? e with
 | none=>simp [hq] at hsz
 | some i=>
 have hi:i.size = 1:=by simpa [hq] using hsz
 unfold Op.equalIn
 simp only [Sem.run_bind,run_underlying ht,Result.andThen_ok,Go.sizeOf,typeInfo,run_program,hq,hi,Sem.run_pure]
 simp only [Std.Legacy.Range.forIn_eq_forIn_range',List.range',Std.Legacy.Range.size]
 have g0:∀ (w:World),(part e #[.int .i64 a,.int .i64 b] 0).run P w = .ok (.int .i64 a) w:=fun w=>run_part_cell w e .i64 _ _ _ he rfl
 have g1:∀ (w:World),(part e #[.int .i64 a,.int .i64 b] 1).run P w = .ok (.int .i64 b) w:=fun w=>run_part_cell w e .i64 _ _ _ he rfl
 have c:∀ (x y:Int) (w:World),(Op.equalIn (d + 1) e (.int .i64 x) (.int .i64 y)).run P w = .ok (x == y) w:=fun x y w=>run_equalIn_int w d e .i64 .i64 _ _ he
 simp [g0,g1,c]
theorem eqII (a b:Int) (W:World):(Op.equalIn 10000 77 (.agg #[.int .i64 a,.int .i64 b]) (.agg #[.int .i64 a,.int .i64 b])).run Try.prog W = .ok true W:=run_eqII W 9998 _ _ Try.underlying77 Try.underlying3 int1_size a b
theorem fork_cheap (cf cs cb:Int) (l:List UInt8) (al:Option Addr) (cl:Nat) (p:Int) (w:World) (hr:SlR w al cl l.length (l.map byV)) :
  Calls Try.prog 6 #[.agg #[.int .i64 cf,.int .i64 cs,.int .i64 cb],.slice al l.length cl,.int .i64 p] w fun r w'=>r = .returned (.bool true) ∧ Below w.heap.size w w':=by
 go_enter Try.func6,Try.ntmps6
 go_upto_region 1 with (fail)
 refine abs1 (fun W=>Code.wp _ _ _ _ W) fun w1 hb1 cx1 hs1 => ?_
 have hr1:=hr.below hb1
 clear hr
 go_wp2_with fail
 refine (alive10 w1).mono ?_
 rintro r w2 ⟨rfl,hb2⟩
 have hr2:=hr1.below hb2
 have cx2:=cx1.ext hb2
 have hbr2:=below_next hb1 hb2
 clear hr1 cx1 hb1 hb2
 have hcc:=cx2.cell
 go_wp2_with fail
 refine (rbuild_any cf cs cb al cl l w2 hr2).mono ?_
 rintro r w3 ⟨H,rfl,ho,hb3,hRt,hCo,_,_,_,_,_⟩
 have hbr3:=below_next hbr2 hb3
 have hrd3:=ho.rd
 have hR:=Lib.hid hRt
 have hC:=Lib.hid hCo
 clear hr2 cx2 hcc hbr2 hb3 ho hRt hCo
 go_wp2_with (refine wpList_stn rfl _ _ _ rfl (mhC H) rfl rfl rfl machine_size (mhC_one _) ?_)
 intro w4 hb4 bx4
 have hrd4:=hrd3.below hb4
 have hbr4:=below_next hbr3 hb4
 clear hrd3 hbr3 hb4
 go_wp2_with (refine wpList_ldg _ _ rfl w3.heap.size 0 rfl rfl _ bx4.rd _ Try.underlying40 rfl machine_size ?_)
 refine (fork_any H p _ hrd4 hR.out hC.out).mono ?_
 rintro r w5 ⟨hb5,hcase⟩
 have bx5:=bx4.ext hb5
 have hrd5:=hrd4.below hb5
 have hbr5:=below_next hbr4 hb5
 clear bx4 hrd4 hbr4 hb5
 rcases hcase with ⟨_,rfl⟩ | ⟨_,_,_,rfl⟩ | ⟨_,K,q,_,rfl,ho3,hF⟩
 ·skip
  go_wp2_with (refine wpList_stn rfl _ _ _ rfl (mhC noH) rfl rfl rfl machine_size (mhC_one _) ?_)
  intro w6 hb6 bx6
  have hbr6:=below_next hbr5 hb6
  clear hb6 bx6 hbr5
  go_upto_region 5 with (fail)
  refine wp_growP 10 [_,_,_,_,_,_,_,_,_,.v (.bool true)] (Gk rfl (Gb (.bool true) (by simp [go_sem]) rfl rfl rfl rfl rfl (Gk rfl (Gk rfl (Gk rfl (Gk rfl (Gk rfl (Gk rfl (Gk rfl (Gk rfl (all_nil))))))))))) (fun _=>rfl) rfl ?_
  intro y W7 hbW7 _
  go_wp2
  go_ret
  exact ⟨rfl,below_next hbr6 hbW7⟩
 ·skip
  go_wp2_with (refine wpList_stn rfl _ _ _ rfl (mhC noH) rfl rfl rfl machine_size (mhC_one _) ?_)
  intro w6 hb6 bx6
  have hbr6:=below_next hbr5 hb6
  clear hb6 bx6 hbr5
  go_upto_region 5 with (fail)
  refine wp_growP 10 [_,_,_,_,_,_,_,_,_,.v (.bool true)] (Gk rfl (Gb (.bool true) (by simp [go_sem]) rfl rfl rfl rfl rfl (Gk rfl (Gk rfl (Gk rfl (Gk rfl (Gk rfl (Gk rfl (Gk rfl (Gk rfl (all_nil))))))))))) (fun _=>rfl) rfl ?_
  intro y W7 hbW7 _
  go_wp2
  go_ret
  exact ⟨rfl,below_next hbr6 hbW7⟩
 have hF':=Lib.hid hF
 have hrK:=ho3.rd
 obtain ⟨e1,e2⟩:=hF.free
 have ee:Hid (freeFr K.m.fs = freeFr H.m.fs ∧ freeSl K.sl = freeSl H.sl):=Lib.hid ⟨e1,e2⟩
 have hzH:=Lib.hid (rt_maz hR.out)
 have hzK:=Lib.hid (rt_maz hF.rt)
 clear hF ho3 e1 e2
 go_wp2_with (refine wpList_stn rfl _ _ _ rfl (mhC K) rfl rfl rfl machine_size (mhC_one _) ?_)
 intro w6 hb6 kx6
 have hrK6:=hrK.below hb6
 have hrd6:=hrd5.below hb6
 have bx6:=bx5.ext hb6
 have hbr6:=below_next hbr5 hb6
 clear hrK hrd5 bx5 hbr5 hb6
 go_upto_region 5 with (fail)
 refine wp_growP 10 [_,_,_,_,.v (.agg #[.int .i64 (freeFr H.m.fs:Int),.int .i64 (freeSl H.sl:Int)]),_,.v (.agg #[.int .i64 (freeFr H.m.fs:Int),.int .i64 (freeSl H.sl:Int)]),_,_,.v (.bool true)] (Gk rfl (Gb (.bool false) (by simp [go_sem]) rfl rfl rfl rfl rfl (Gk rfl (Gr (.agg (mhC H)) (fun ρ y W hb hKn=>(run_load_blk rfl (kx_at rfl hKn) (bx6.ext hb) Try.underlying40 rfl machine_size)) rfl rfl (all_cons ?_ (Gr (.agg (mhC K)) (fun ρ y W hb hKn=>(run_load_blk rfl (kx_at rfl hKn) (kx6.ext hb) Try.underlying40 rfl machine_size)) rfl rfl (all_cons ?_ (Gb (.bool true) (by simp [go_sem,eqII]) rfl rfl rfl rfl rfl (Gk rfl (Gk rfl (all_nil))))))))))) (fun _=>rfl) rfl ?_
 ·intro ρ y W hw hn hb hd; have E31:=hw 31 3 rfl; have h3:y 3 = _:=hd 3 rfl
  have EF:∀ f,ρ (.func f) = .func (.func f) #[] #[]:=fun f=>hn (.func f) trivial
  refine asked_call _ _ (want_at 2 30 false false rfl rfl ((hw 30 2 rfl).trans (hd 2 rfl))) (run_call rfl (EF _) Try.func23 (by kernel_rfl) (by kernel_rfl) (by simp only [List.map_toArray,List.map_cons,List.map_nil,E31,h3,EF]; rfl)) ?_
  refine (free10_any H W (hrd6.below hb) hzH.out).mono ?_
  rintro r w9 ⟨rfl,hb9⟩
  exact ⟨_,rfl,hb9,rfl⟩
 ·intro ρ y W hw hn hb hd; have E33:=hw 33 5 rfl; have h5:y 5 = _:=hd 5 rfl
  have EF:∀ f,ρ (.func f) = .func (.func f) #[] #[]:=fun f=>hn (.func f) trivial
  refine asked_call _ _ (want_at 2 30 false false rfl rfl ((hw 30 2 rfl).trans (hd 2 rfl))) (run_call rfl (EF _) Try.func23 (by kernel_rfl) (by kernel_rfl) (by simp only [List.map_toArray,List.map_cons,List.map_nil,E33,h5,EF]; rfl)) ?_
  refine (free10_any K W (hrK6.below hb) hzK.out).mono ?_
  rintro r w9 ⟨rfl,hb9⟩
  exact ⟨_,rfl,hb9,by rw [ee.out.1,ee.out.2]; rfl⟩
 intro y W7 hbW7 _
 go_wp2
 go_ret
 exact ⟨rfl,below_next hbr6 hbW7⟩
open Go.ChangeShapes Go.WideShapes Go.ChangeAt
theorem opens_cfg:OpensW Try.prog 23 (fun x:Int × Int × Int=>[.int .i64 x.1,.int .i64 x.2.1,.int .i64 x.2.2]) (fun _ x=>i64 x.1 ∧ i64 x.2.1 ∧ i64 x.2.2):=
 (opens_struct Try.underlying23 (opensFrom_cons rfl 1 rfl (by kernel_rfl) (opens_int Try.underlying3).w (opensFrom_cons rfl 2 rfl (by kernel_rfl) (opens_int Try.underlying3).w (opensFrom_cons rfl 3 rfl (by kernel_rfl) (opens_int Try.underlying3).w (opensFrom_nil (by kernel_rfl)))))).of (fun x=>(x.1,x.2.1,x.2.2.1)) (fun _=>rfl) (fun _ _ h=>⟨h.1,h.2.1,h.2.2.1⟩)
theorem config_arg {W:World} {base base' : Nat} {H:Type} {en:TypeId × Value → H} {spare:Nat → Bool} {held:Bool} {fuel:Nat} {v:Value} {x:DataW H × List MemPlace} (hv:Value.okWide Try.prog W .any base 23 v) (h:DataW.trod en Try.prog W base' spare held fuel 23 v.cells.toList = some x) :
  ∃ f s b:Int,v = .agg #[.int .i64 f,.int .i64 s,.int .i64 b] ∧ i64 f ∧ i64 s ∧ i64 b:=by
 obtain ⟨cs,rfl,_⟩:=okWide_struct Try.underlying23 hv
 obtain ⟨⟨f,s,b⟩,hcs,g1,g2,g3⟩:=opens_cfg _ _ _ _ _ _ _ _ _ h
 refine ⟨f,s,b,?_,g1,g2,g3⟩
 congr 1
 apply Array.ext'
 simpa [Value.cells] using hcs
end Go.Proofs.Ytkjobhcnlppcnaa