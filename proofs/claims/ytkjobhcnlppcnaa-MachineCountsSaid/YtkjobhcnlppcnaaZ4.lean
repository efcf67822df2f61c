import Derived.Test.YtkjobhcnlppcnaaZ3
import Derived.Deep.DeepCutAuto
import Derived.BigRegion
import Derived.ArgAppend
set_option linter.unusedSimpArgs false
set_option linter.unusedVariables false
set_option maxHeartbeats 4000000
set_option maxRecDepth 100000
namespace Go.Proofs.Ytkjobhcnlppcnaa
open Go.RowKit Go.Maps Pw
theorem firstE_app {l r:List Int} (h:∀ x ∈ l,x = 0):firstE (l ++ r) = firstE r:=by
 induction l with
 | nil=>rfl
 | cons a l ih=>
  have h0:=h a List.mem_cons_self
  rw [List.cons_append]
  rw [firstE,h0]
  simp only [if_true,ne_eq,not_true_eq_false,if_false]
  exact ih fun x hx=>h x (List.mem_cons_of_mem _ hx)
theorem firstE_hd {x:Int} {r:List Int} (h:x ≠ 0):firstE (x :: r) = x:=by
 rw [firstE]
 simp [h]
theorem entries_at {m:Ma} {p j:Nat} {s:Sp} {n:Int} (hs:m.sp[p]? = some s) (hn:(pagesL s.tb)[j]? = some n) (h1:∀ t ∈ m.sp.take p,∀ i ∈ pagesL t.tb,entryE m t i = 0) (h2:∀ i ∈ (pagesL s.tb).take j,entryE m s i = 0) (hne:entryE m s n ≠ 0):entriesE m = entryE m s n:=by
 unfold entriesE
 have e1:m.sp = m.sp.take p ++ s :: m.sp.drop (p + 1):=by rw [← drop_at hs,List.take_append_drop]
 have e2:pagesL s.tb = (pagesL s.tb).take j ++ n :: (pagesL s.tb).drop (j + 1):=by rw [← drop_at hn,List.take_append_drop]
 rw [e1,List.flatMap_append,firstE_app (fun x hx => ?_),List.flatMap_cons,e2,List.map_append,List.append_assoc,firstE_app (fun x hx => ?_),List.map_cons,List.cons_append,firstE_hd hne]
 ·obtain ⟨i,hi,rfl⟩:=List.mem_map.1 hx
  exact h2 i hi
 ·obtain ⟨t,ht,hx⟩:=List.mem_flatMap.1 hx
  obtain ⟨i,hi,rfl⟩:=List.mem_map.1 hx
  exact h1 t ht i hi
theorem entries_all {m:Ma} (h:∀ t ∈ m.sp,∀ i ∈ pagesL t.tb,entryE m t i = 0):entriesE m = 0:=by
 unfold entriesE
 rw [← List.append_nil (m.sp.flatMap _),firstE_app (fun x hx => ?_)]
 ·rfl
 ·obtain ⟨t,ht,hx⟩:=List.mem_flatMap.1 hx
  obtain ⟨i,hi,rfl⟩:=List.mem_map.1 hx
  exact h t ht i hi
theorem entry_lt {m:Ma} {s:Sp} {n:Int} (h:entryE m s n = 0):((getT s.tb n).k = 2 → (getT s.tb n).n < m.sl.length) ∧ ((getT s.tb n).k ≠ 2 → (getT s.tb n).n < m.m.fs.length):=by
 unfold entryE at h
 split at h
 ·cases h
 ·simp only at h
  split at h
  ·rename_i h2
   split at h
   ·cases h
   ·rename_i h3
    exact ⟨fun _=>by omega,fun h'=>absurd h2 h'⟩
  ·rename_i h2
   split at h
   ·cases h
   ·exact ⟨fun h'=>absurd h' h2,fun _=>by omega⟩
def heldT (m:Ma) (p:Nat) (l:List Int):List Int:=m.ca.map Cc.k ++ (m.sp.take p).flatMap (fun s=>presT s.tb (pagesL s.tb)) ++ l
def swapdT (m:Ma) (p:Nat) (l:List Int):List Int:=(m.sp.take p).flatMap (fun s=>swapT s.tb (pagesL s.tb)) ++ l
theorem pres_snoc (t:Tb) (l:List Int) (n:Int):presT t (l ++ [n]) = presT t l ++ (if (getT t n).k = 1 then [(getT t n).n] else []):=by
 unfold presT
 rw [List.filter_append,List.map_append]
 congr 1
 by_cases h:(getT t n).k = 1
 ·simp [h]
 ·simp [h]
theorem swap_snoc (t:Tb) (l:List Int) (n:Int):swapT t (l ++ [n]) = swapT t l ++ (if (getT t n).k = 1 then [] else [(getT t n).n]):=by
 unfold swapT
 rw [List.filter_append,List.map_append]
 congr 1
 by_cases h:(getT t n).k = 1
 ·simp [h]
 ·simp [h]
theorem heldT_next {m:Ma} {p:Nat} {s:Sp} (hs:m.sp[p]? = some s):heldT m p (presT s.tb (pagesL s.tb)) = heldT m (p + 1) []:=by
 unfold heldT
 rw [take_at hs,List.flatMap_append,List.append_nil,List.append_assoc]
 simp
theorem swapdT_next {m:Ma} {p:Nat} {s:Sp} (hs:m.sp[p]? = some s):swapdT m p (swapT s.tb (pagesL s.tb)) = swapdT m (p + 1) []:=by
 unfold swapdT
 rw [take_at hs,List.flatMap_append,List.append_nil]
 simp
theorem heldT_end (m:Ma):heldT m m.sp.length [] = heldL m:=by unfold heldT heldL; rw [List.take_length,List.append_nil]
theorem swapdT_end (m:Ma):swapdT m m.sp.length [] = swapL m:=by unfold swapdT swapL; rw [List.take_length,List.append_nil]
theorem heldT_snoc (m:Ma) (p:Nat) (l:List Int) (k:Int):heldT m p (l ++ [k]) = heldT m p l ++ [k]:=by unfold heldT; rw [List.append_assoc,List.append_assoc,List.append_assoc]
theorem swapdT_snoc (m:Ma) (p:Nat) (l:List Int) (k:Int):swapdT m p (l ++ [k]) = swapdT m p l ++ [k]:=by unfold swapdT; rw [List.append_assoc]
theorem presT_len (t:Tb) (l:List Int):(presT t l).length ≤ l.length:=by unfold presT; rw [List.length_map]; exact List.length_filter_le _ _
theorem swapT_len (t:Tb) (l:List Int):(swapT t l).length ≤ l.length:=by unfold swapT; rw [List.length_map]; exact List.length_filter_le _ _
theorem flat_len {α:Type} (g:α → List Int) (c:Nat) (h:∀ x,(g x).length ≤ c):∀ l:List α,(l.flatMap g).length ≤ c * l.length
 | []=>by simp
 | x :: l=>by
  have h1:=flat_len g c h l
  have h2:=h x
  rw [List.flatMap_cons,List.length_append,List.length_cons,Nat.mul_succ]
  omega
theorem pagesL_len (t:Tb):(pagesL t).length ≤ 64:=pagesTo_le t 64
theorem heldT_len (m:Ma) (p:Nat) (l:List Int):(heldT m p l).length ≤ m.ca.length + 64 * m.sp.length + l.length:=by
 unfold heldT
 have h1:=flat_len (fun s:Sp=>presT s.tb (pagesL s.tb)) 64 (fun s=>Nat.le_trans (presT_len _ _) (pagesL_len _)) (m.sp.take p)
 have h2:(m.sp.take p).length ≤ m.sp.length:=by rw [List.length_take]; omega
 simp only [List.length_append,List.length_map]
 omega
theorem heldT_cnt {m:Ma} (h:CaOk m) (p:Nat) (l:List Int) (K:Int):cnt (heldT m p l) K ≤ 1 + 64 * m.sp.length + l.length:=by
 unfold heldT
 rw [cnt_app,cnt_app]
 have h1:=flat_len (fun s:Sp=>presT s.tb (pagesL s.tb)) 64 (fun s=>Nat.le_trans (presT_len _ _) (pagesL_len _)) (m.sp.take p)
 have h2:(m.sp.take p).length ≤ m.sp.length:=by rw [List.length_take]; omega
 have h3:cnt (m.ca.map Cc.k) K = caN m K:=by
  unfold cnt caN
  rw [List.countP_map]; rfl
 have h4:=caN_le h K
 have h5:=cnt_le ((m.sp.take p).flatMap fun s=>presT s.tb (pagesL s.tb)) K
 have h6:=cnt_le l K
 omega
theorem swapdT_len (m:Ma) (p:Nat) (l:List Int):(swapdT m p l).length ≤ 64 * m.sp.length + l.length:=by
 unfold swapdT
 have h1:=flat_len (fun s:Sp=>swapT s.tb (pagesL s.tb)) 64 (fun s=>Nat.le_trans (swapT_len _ _) (pagesL_len _)) (m.sp.take p)
 have h2:(m.sp.take p).length ≤ m.sp.length:=by rw [List.length_take]; omega
 simp only [List.length_append]
 omega
theorem two_new (w:World) (c1 c2:Array Value) (T1 T2:TypeId):Below w.heap.size w ((w.alloc (.cells c1 T1)).alloc (.cells c2 T2)).drew ∧ Blk ((w.alloc (.cells c1 T1)).alloc (.cells c2 T2)).drew w.heap.size c1 T1 ∧ Blk ((w.alloc (.cells c1 T1)).alloc (.cells c2 T2)).drew (w.heap.size + 1) c2 T2:=by
 have e:(w.alloc (.cells c1 T1)).heap.size = w.heap.size + 1:=Array.size_push _
 have h1:Below w.heap.size w ((w.alloc (.cells c1 T1)).alloc (.cells c2 T2)):=((Below.refl _ _).alloc (Nat.le_refl _) _).alloc (by omega) _
 have h2:Blk ((w.alloc (.cells c1 T1)).alloc (.cells c2 T2)) w.heap.size c1 T1:=(Blk.new w c1 T1).ext ((Below.refl _ _).alloc (Nat.le_refl _) _)
 have h3:Blk ((w.alloc (.cells c1 T1)).alloc (.cells c2 T2)) (w.heap.size + 1) c2 T2:=by rw [← e]; exact Blk.new _ _ _
 exact ⟨⟨h1.os,h1.tape,h1.output,h1.size,h1.block⟩,h2,h3⟩
theorem int_one:(Try.prog.info? 3).map (·.size) = some 1:=by kernel_rfl
theorem int_inf:(Try.prog.info? 3).map (fun i=>(i.zero,i.size,i.bytes)) = some (some (.int .i64 0),1,8):=by kernel_rfl
theorem run_idx1 {P:Program} {ρ:Operand → Value} {o:Oper} {w:World} {t e:TypeId} {x y:Operand} {b n c i:Nat} {k:IntKind} (ho:o.op = .indexAddr t x y) (hx:ρ x = .slice (some ⟨b,0,none⟩) n c) (hy:ρ y = .int k (i:Int)) (hi:i < n)
  (hu:P.underlying t = some (.slice e)) (hs:(P.info? e).map (·.size) = some 1):(execOp ρ o).run P w = .ok (.value (.pointer (some ⟨b,i,none⟩))) w:=by
 have:=run_idx (w:=w) ho hx hy hi hu hs
 rw [this]
 simp
def cndC (m:Ma) (i:Nat):Bool:=decide ((frAt m i).r = cnt (heldL m) i) && (decide ((frAt m i).f < 0) || m.ca.any fun c=>decide (c.k = i))
theorem countB_c (m:Ma):countB m = ((List.range m.m.fs.length).all (cndC m) && decide (m.sl = cntL m.sl.length (swapL m))):=rfl
theorem count_at {m:Ma} (h:countB m = true) (k:Nat) (hk:k < m.m.fs.length):cndC m k = true:=by
 rw [countB_c,Bool.and_eq_true,List.all_eq_true] at h
 exact h.1 k (List.mem_range.2 hk)
theorem machine_wrong (H:MH) (w:World) (h:MaR w H) :
  Calls Try.prog 10 #[.agg (mhC H)] w fun r w'=>r = .returned (.int .i64 (wrongMa H.ma)) ∧ Below w.heap.size w w':=by
 have hmx:H.m.fs.length * 8 ≤ 281474976710656 ∧ H.sl.length * 8 ≤ 281474976710656 ∨ ¬ partsE H.ma = 0:=by
  by_cases e:partsE H.ma = 0
  ·have hp:=(partsE_zero.1 e).1
   have h1:=((wrongM_iff _).1 hp.fr).1
   have h2:=wrongS_len hp.sl
   have h1' : H.m.fs.length ≤ 40:=h1
   have h2' : H.sl.length ≤ 60:=h2
   exact .inl ⟨by omega,by omega⟩
  ·exact .inr e
 go_enter Try.func10,Try.ntmps10
 go_upto_region 1 with (fail)
 refine abs1 (fun W=>Code.wp _ _ _ _ W) fun w1 hb1 bx1 hs1 => ?_
 have h1:=h.below hb1
 have bx:Blk w1 w.heap.size (mhC H) 40:=bx1
 clear bx1 hs1
 go_wp2_with fail
 refine (parts_any H w.heap.size _ bx h1).mono ?_
 rintro r w2 ⟨rfl,hb2⟩
 have hbr2:=below_next hb1 hb2
 have bx2:=bx.ext hb2
 clear bx h1 hb1 hb2
 by_cases e1:partsE H.ma = 0
 rotate_left
 ·have hq:Hid (wrongMa H.ma = partsE H.ma):=Lib.hid (by unfold wrongMa; rw [if_pos e1])
  generalize partsE H.ma = E at *
  go_wp2
  go_ret
  rw [hq.out]
  exact ⟨rfl,hbr2⟩
 rw [e1]
 go_wp2_with fail
 refine (cached_any H w.heap.size _ bx2 (h.below hbr2)).mono ?_
 rintro r w3 ⟨rfl,hb3⟩
 have hbr3:=below_next hbr2 hb3
 have bx3:=bx2.ext hb3
 clear bx2 hbr2 hb3
 by_cases e2:cachedE H.ma = 0
 rotate_left
 ·have hq:Hid (wrongMa H.ma = cachedE H.ma):=Lib.hid (by unfold wrongMa; rw [if_neg (by rw [e1]; simp),if_pos e2])
  generalize cachedE H.ma = E at *
  go_wp2
  go_ret
  rw [hq.out]
  exact ⟨rfl,hbr3⟩
 rw [e2]
 have hPt:=(partsE_zero.1 e1).1
 have n1:H.m.fs.length ≤ 40:=((wrongM_iff _).1 hPt.fr).1
 have n2:H.sl.length ≤ 60:=wrongS_len hPt.sl
 have n3:H.sp.length ≤ 4:=by have:=hPt.spl; rw [spH] at this; exact this
 have hPt':=Lib.hid hPt
 have hcaL:=Lib.hid (cachedE_zero.1 e2)
 have hwr:Hid (wrongMa H.ma = if entriesE H.ma ≠ 0 then entriesE H.ma else if countB H.ma = true then 0 else 7):=Lib.hid (by unfold wrongMa; rw [if_neg (by rw [e1]; simp),if_neg (by rw [e2]; simp)])
 clear e1 e2 hPt hmx
 go_upto_region 7 with (fail)
 have hcb:=bx3.cell
 unfold mhC at hcb
 have hcb2:=fun ob=>(bx3.ext ((Below.refl _ _).alloc (Nat.le_refl _) ob)).cell
 unfold mhC at hcb2
 have hmk1:=run_make_row' (P:=Try.prog) 28 3 (.int .i64 0) 8 Try.underlying28 int_inf rfl .i64 .i64 H.m.fs.length (by omega) (by omega)
 have hmk2:=run_make_row' (P:=Try.prog) 28 3 (.int .i64 0) 8 Try.underlying28 int_inf rfl .i64 .i64 H.sl.length (by omega) (by omega)
 go_cut [5,6] (fun s5 s6 wx => ∃ gh gs,s5 = .slice (some ⟨gh,0,none⟩) H.m.fs.length H.m.fs.length ∧ s6 = .slice (some ⟨gs,0,none⟩) H.sl.length H.sl.length ∧ gh ≠ gs ∧ w3.heap.size ≤ gh ∧ w3.heap.size ≤ gs ∧ Below w3.heap.size w3 wx ∧ Blk wx gh (madeCells #[.int .i64 0] H.m.fs.length) 3 ∧ Blk wx gs (madeCells #[.int .i64 0] H.sl.length) 3)
 case first=>
  go_region
  all_goals (go_wp2_with fail; go_meet)
  ·obtain ⟨z1,z2,z3⟩:=two_new w3 (madeCells #[.int .i64 0] H.m.fs.length) (madeCells #[.int .i64 0] H.sl.length) 3 3
   exact ⟨_,_,rfl,rfl,by omega,by omega,by omega,z1,z2,z3⟩
  ·obtain ⟨z1,z2,z3⟩:=two_new w3 (madeCells #[.int .i64 0] H.sl.length) (madeCells #[.int .i64 0] H.m.fs.length) 3 3
   exact ⟨_,_,rfl,rfl,by omega,by omega,by omega,z1,z3,z2⟩
 case rest=>
  obtain ⟨gh,gs,rfl,rfl,hne,hgh,hgs,hb4,hIh,hIs⟩:=hcut
  have hbr4:=below_next hbr3 hb4
  have bx4:=bx3.ext hb4
  have hwh:w.heap.size ≤ gh:=Nat.le_trans hbr3.size hgh
  have hws:w.heap.size ≤ gs:=Nat.le_trans hbr3.size hgs
  have hbh:w.heap.size ≠ gh:=by have:=bx3.lt; omega
  have hbs:w.heap.size ≠ gs:=by have:=bx3.lt; omega
  have hIh4:IB wc gh (cntL H.m.fs.length ((H.ca.take 0).map Cc.k)):=by
   rw [List.take_zero,List.map_nil,cntL_nil]; unfold IB; rw [← made_ints]; exact hIh
  have hIs4:IB wc gs (cntL H.sl.length []):=by
   rw [cntL_nil]; unfold IB; rw [← made_ints]; exact hIs
  clear hcb hcb2 hmk1 hmk2 hIh hIs hb4 bx3 hbr3 hgh hgs
  have hcb:=bx4.cell
  unfold mhC at hcb
  go_upto_region 9 with (fail)
  clear hcb
  have hcl:=h.ca.le
  have hcm:=h.ca.mx
  unfold maxLen at hcm
  go_loopw [37] (fun i wr => ∃ (k:Nat),k ≤ H.ca.length ∧ i = .int .i64 k ∧ Below w.heap.size w wr ∧ Blk wr w.heap.size (mhC H) 40 ∧ IB wr gh (cntL H.m.fs.length ((H.ca.take k).map Cc.k)) ∧ IB wr gs (cntL H.sl.length [])) (fun i _=>H.ca.length - (intOf i).toNat)
  case atStart=>exact ⟨0,Nat.zero_le _,rfl,hbr4,bx4,hIh4,hIs4⟩
  case round=>
   clear hbr4 bx4 hIh4 hIs4
   obtain ⟨k,hk,rfl,hbr,bx,hIh,hIs⟩:=hrel
   by_cases hkl:k < H.ca.length
   ·obtain ⟨bc,oc,hac,hrd⟩:=elemR ccL_len (by decide) (h.below hbr).ca.rd k hkl
    have hki:(k:Int) < (H.ca.length:Int):=by omega
    have hclt:0 ≤ H.ca[k].k ∧ H.ca[k].k < H.m.fs.length:=hcaL.out.lt _ (List.getElem_mem hkl)
    have htk:Hid ((H.ca.take (k + 1)).map Cc.k = (H.ca.take k).map Cc.k ++ [H.ca[k].k]):=Lib.hid (by rw [take_at (List.getElem?_eq_getElem hkl),List.map_append]; rfl)
    have hll:((H.ca.take k).map Cc.k).length ≤ k:=by rw [List.length_map,List.length_take]; omega
    generalize H.ca[k] = c at *
    obtain ⟨K,hcK⟩:∃ K:Nat,c.k = K:=⟨c.k.toNat,by omega⟩
    have hKl:K < H.m.fs.length:=by omega
    rw [hcK] at htk
    rw [hac]
    generalize (H.ca.take k).map Cc.k = L at *
    go_wp2_with (first | (refine wpList_ldg _ _ rfl bc (oc + k * 3) rfl rfl _ hrd _ Try.underlying85 rfl cached_size ?_) | (refine wpList_stn rfl _ _ _ rfl (ccC c) rfl rfl rfl cached_size (ccC_one c) ?_))
    intro w5 hb5 cx
    have hbr5:=below_next hbr hb5
    have bx5:=bx.ext hb5
    have hIh5:IB w5 gh (cntL H.m.fs.length L):=hIh.ext hb5
    have hIs5:IB w5 gs (cntL H.sl.length []):=hIs.ext hb5
    clear hbr bx hIh hIs hrd hb5
    have hcc:=cx.cell
    unfold ccC at hcc
    rw [hcK] at hcc
    have hce:=hIh5.cell (cntL_get H.m.fs.length L K hKl)
    have hcl2:=cnt_le L K
    have hw1:IntKind.i64.wrap ((cnt L K:Int) + 1) = (cnt L K:Int) + 1:=IntWalk.i64_in _ (by omega)
    have hKi:(K:Int) < (H.m.fs.length:Int):=by omega
    go_wp2_with (refine wpList_stv rfl _ _ _ rfl gh K _ [.int .i64 ((cnt L K:Int) + 1)] rfl rfl rfl _ _ hIh5 (by simp [cntL_len]; omega) int_one (fun u hu=>by cases List.mem_singleton.1 hu; rfl) ?_)
    intro w6 hb6 hg6
    rw [IB.set (by rw [cntL_len]; exact hKl),cntL_inc _ _ _ hKl,← htk.out] at hb6
    have hbr6:=hbr5.grown hg6 hbr5.size (fun k hk=>by cases hk; exact hwh)
    have bx6:=bx5.grown hg6 (fun e=>hbh (Option.some.inj e).symm)
    have hIs6:IB w6 gs (cntL H.sl.length []):=Blk.grown hIs5 hg6 (fun e=>hne (Option.some.inj e))
    clear hbr5 bx5 hIs5 hIh5 hcc hce cx hg6 hw1
    go_wp2
    go_roundw
    case rel=>exact ⟨k + 1,by omega,by go_num,hbr6,bx6,hb6,hIs6⟩
    case measure=>simp [intOf]; omega
   ·have hki:¬ (k:Int) < (H.ca.length:Int):=by omega
    rw [List.take_of_length_le (by omega)] at hIh
    have hIh0:IB wr gh (cntL H.m.fs.length (heldT H.ma 0 [])):=by
     have e:heldT H.ma 0 [] = H.ca.map Cc.k:=by
      show H.ca.map Cc.k ++ [] ++ [] = _
      rw [List.append_nil,List.append_nil]
     rw [e]; exact hIh
    have hIs0:IB wr gs (cntL H.sl.length (swapdT H.ma 0 [])):=hIs
    clear hIh hIs
    have hcb:=bx.cell
    unfold mhC at hcb
    go_upto_region 14 with (fail)
    clear hcb
    go_loopw [52] (fun i wr => ∃ (p:Nat),p ≤ H.sp.length ∧ i = .int .i64 p ∧ Below w.heap.size w wr ∧ Blk wr w.heap.size (mhC H) 40 ∧ IB wr gh (cntL H.m.fs.length (heldT H.ma p [])) ∧ IB wr gs (cntL H.sl.length (swapdT H.ma p [])) ∧ Hid (∀ t ∈ H.ma.sp.take p,∀ i ∈ pagesL t.tb,entryE H.ma t i = 0)) (fun i _=>H.sp.length - (intOf i).toNat)
    case atStart=>exact ⟨0,Nat.zero_le _,rfl,hbr,bx,hIh0,hIs0,Lib.hid fun t ht=>by simp at ht⟩
    case round=>
     clear hbr bx hIh0 hIs0
     obtain ⟨p,hp,rfl,hbr,bx,hIh,hIs,hz⟩:=hrel
     by_cases hpl:p < H.sp.length
     ·obtain ⟨bs,os,P,hap,hP,hrd⟩:=ps_at (h.below hbr).sp.rd p hpl
      have hgood:=ps_good (h.below hbr) hP
      have hpi:(p:Int) < (H.sp.length:Int):=by omega
      have hsP:H.ma.sp[p]? = some P.sp:=by show (H.sp.map PS.sp)[p]? = _; rw [List.getElem?_map,hP]; rfl
      have harE:(wrongA P.ar).1 = 0:=hPt'.out.ar P.sp (List.mem_of_getElem? hsP)
      have htbE:wrongT P.tb = 0:=hPt'.out.tb P.sp (List.mem_of_getElem? hsP)
      have hsP':=Lib.hid hsP
      have hPq:=Lib.hid hP
      have hcb:=bx.cell
      unfold mhC at hcb
      rw [hap] at hcb
      clear hsP hP
      go_wp2_with (refine wpList_ldg _ _ rfl bs (os + p * 10 + 2) rfl rfl _ (rdv_part hrd 2 8) _ Try.underlying63 tab_agg tab_size ?_)
      refine (tpages_any P.tb (tsC P.ts) _ hgood.tb).mono ?_
      rintro r w5 ⟨v5,rfl,ho5,hb5⟩
      obtain ⟨a5,c5,rfl,hle5,hmx5,_,hr5⟩:=ho5.rd
      have hlt5:gh < wr.heap.size ∧ gs < wr.heap.size:=⟨Blk.lt hIh,Blk.lt hIs⟩
      have hbr5:=below_next hbr hb5
      have bx5:=bx.ext hb5
      have hIh5:IB w5 gh (cntL H.m.fs.length (heldT H.ma p (presT P.tb ((pagesL P.tb).take 0)))):=hIh.ext hb5
      have hIs5:IB w5 gs (cntL H.sl.length (swapdT H.ma p (swapT P.tb ((pagesL P.tb).take 0)))):=hIs.ext hb5
      have hrd5:=hrd.below hb5
      have hg5:=hgood.below hb5
      have hwrs:=Lib.hid hlt5
      clear hcb hbr bx hIh hIs hrd hgood hb5 hr5
      have hpin:=Lib.hid (pages_in P.tb)
      have hpl64:=pagesL_len P.tb
      go_upto_region 18 with (fail)
      go_loopw [65] (fun i wr' => ∃ (j:Nat),j ≤ (pagesL P.tb).length ∧ i = .int .i64 j ∧ Below w.heap.size w wr' ∧ Blk wr' w.heap.size (mhC H) 40 ∧ IB wr' gh (cntL H.m.fs.length (heldT H.ma p (presT P.tb ((pagesL P.tb).take j)))) ∧ IB wr' gs (cntL H.sl.length (swapdT H.ma p (swapT P.tb ((pagesL P.tb).take j)))) ∧ Own wr' wr.heap.size 3 1 (.slice a5 (pagesL P.tb).length c5) (pagesL P.tb).length ((pagesL P.tb).map inV) ∧ RdV wr' (some ⟨bs,os + p * 10,none⟩) (psL P) ∧ P.good wr' ∧ Hid (∀ i ∈ (pagesL P.tb).take j,entryE H.ma P.sp i = 0)) (fun i _=>(pagesL P.tb).length - (intOf i).toNat)
      case atStart=>exact ⟨0,Nat.zero_le _,rfl,hbr5,bx5,hIh5,hIs5,ho5,hrd5,hg5,Lib.hid fun i hi=>by simp at hi⟩
      case round=>
       clear hbr5 bx5 hIh5 hIs5 ho5 hrd5 hg5
       obtain ⟨j,hj,rfl,hbr,bx,hIh,hIs,ho,hrd,hgood,hz2⟩:=hrel
       obtain ⟨hgl,hsl⟩:=hwrs.out
       by_cases hjl:j < (pagesL P.tb).length
       ·have hji:(j:Int) < ((pagesL P.tb).length:Int):=by omega
        obtain ⟨_,_,e9,_,_,_,hrL⟩:=ho.rd
        cases e9
        have hnj:(pagesL P.tb)[j]? = some (pagesL P.tb)[j]:=List.getElem?_eq_getElem hjl
        have hnb:=hpin.out _ (List.getElem_mem hjl)
        have hnk:(getT P.tb (pagesL P.tb)[j]).k ≠ 0:=(mem_pages.1 (List.getElem_mem hjl)).2
        obtain ⟨bp,op,hpa,hcn⟩:=elem_at hrL j hjl
        generalize hN:(pagesL P.tb)[j] = n at *
        have htk:Hid ((pagesL P.tb).take (j + 1) = (pagesL P.tb).take j ++ [n]):=Lib.hid (take_at hnj)
        have hnj':=Lib.hid hnj
        have hpaQ:=Lib.hid hpa
        have hent:=(entE_iff _).1 (getT_ent htbE n)
        rw [hpa]
        clear hnj hN hrL
        go_wp2_with fail
        refine (mentry_any H P n w.heap.size bs (os + p * 10) _ bx (h.below hbr) hrd hgood harE htbE hnb).mono ?_
        rintro r w6 ⟨rfl,hb6⟩
        have hbr6:=below_next hbr hb6
        have bx6:=bx.ext hb6
        have hIh6:=Blk.ext hIh hb6
        have hIs6:=Blk.ext hIs hb6
        have ho6:=ho.below hb6
        have hrd6:=hrd.below hb6
        have hg6:=hgood.below hb6
        clear hbr bx hIh hIs ho hrd hgood hb6 hcn
        by_cases hE:entryE H.ma P.sp n = 0
        rotate_left
        ·have hq:Hid (wrongMa H.ma = entryE H.ma P.sp n):=Lib.hid (by
          have:=entries_at hsP'.out hnj'.out hz.out hz2.out hE
          rw [hwr.out,this,if_pos hE])
         generalize entryE H.ma P.sp n = E at *
         go_wp2
         go_ret
         rw [hq.out]
         exact ⟨rfl,hbr6⟩
        have hlt:=entry_lt hE
        have hz3:Hid (∀ i ∈ (pagesL P.tb).take (j + 1),entryE H.ma P.sp i = 0):=Lib.hid fun i hi=>by
         rw [htk.out] at hi
         rcases List.mem_append.1 hi with hi | hi
         ·exact hz2.out i hi
         ·rw [List.mem_singleton.1 hi]; exact hE
        rw [hE]
        clear hz2 hE
        go_wp2_with (refine wpList_ldg _ _ rfl bs (os + p * 10 + 2) rfl rfl _ (rdv_part hrd6 2 8) _ Try.underlying63 tab_agg tab_size ?_)
        refine (tget_any P.tb (tsC P.ts) n _ hg6.tb).mono ?_
        rintro r w7 ⟨rfl,hb7⟩
        have hlt2:((getT P.tb n).k = 2 → (getT P.tb n).n < H.sl.length) ∧ ((getT P.tb n).k ≠ 2 → (getT P.tb n).n < H.m.fs.length):=hlt
        have hpS:presT P.tb ((pagesL P.tb).take (j + 1)) = presT P.tb ((pagesL P.tb).take j) ++ (if (getT P.tb n).k = 1 then [(getT P.tb n).n] else []):=by rw [htk.out,pres_snoc]
        have hsS:swapT P.tb ((pagesL P.tb).take (j + 1)) = swapT P.tb ((pagesL P.tb).take j) ++ (if (getT P.tb n).k = 1 then [] else [(getT P.tb n).n]):=by rw [htk.out,swap_snoc]
        have hl1:=heldT_len H.ma p (presT P.tb ((pagesL P.tb).take j))
        have hl1b:=presT_len P.tb ((pagesL P.tb).take j)
        have hl2:=swapdT_len H.ma p (swapT P.tb ((pagesL P.tb).take j))
        have hl2b:=swapT_len P.tb ((pagesL P.tb).take j)
        have hl3:((pagesL P.tb).take j).length ≤ 64:=by rw [List.length_take]; omega
        have hl4:H.ma.ca.length = H.ca.length:=rfl
        have hl5:H.ma.sp.length = H.sp.length:=spH H
        generalize getT P.tb n = e at *
        generalize presT P.tb ((pagesL P.tb).take j) = L1 at *
        generalize swapT P.tb ((pagesL P.tb).take j) = L2 at *
        have hpS':=Lib.hid hpS
        have hsS':=Lib.hid hsS
        clear hlt hpS hsS
        have hbr7:=below_next hbr6 hb7
        have bx7:=bx6.ext hb7
        have hIh7:=Blk.ext hIh6 hb7
        have hIs7:=Blk.ext hIs6 hb7
        have ho7:=ho6.below hb7
        have hrd7:=hrd6.below hb7
        have hg7:=hg6.below hb7
        clear hbr6 bx6 hIh6 hIs6 ho6 hrd6 hg6 hb7
        go_wp2_with (refine wpList_stn rfl _ _ _ rfl (enC e) rfl rfl rfl entry_size (by simp [enC,Value.oneCell']) ?_)
        intro w8 hb8 ex
        have hbr8:=below_next hbr7 hb8
        have bx8:=bx7.ext hb8
        have hIh8:IB w8 gh _:=Blk.ext hIh7 hb8
        have hIs8:IB w8 gs _:=Blk.ext hIs7 hb8
        have ho8:=ho7.below hb8
        have hrd8:=hrd7.below hb8
        have hg8:=hg7.below hb8
        clear hbr7 bx7 hIh7 hIs7 ho7 hrd7 hg7 hb8
        have hce:=ex.cell
        unfold enC at hce
        by_cases hk1:e.k = 1
        ·obtain ⟨K,hK⟩:∃ K:Nat,e.n = K:=⟨e.n.toNat,by omega⟩
         have hKl:K < H.m.fs.length:=by have:=hlt2.2 (by omega); omega
         have hpS2:=hpS'.out
         have hsS2:=hsS'.out
         rw [if_pos hk1,hK] at hpS2
         rw [if_pos hk1,List.append_nil] at hsS2
         rw [hk1,hK] at hce
         have hcx:=hIh8.cell (cntL_get H.m.fs.length (heldT H.ma p L1) K hKl)
         have hcl2:=heldT_cnt hcaL.out p L1 K
         have hw1:IntKind.i64.wrap ((cnt (heldT H.ma p L1) K:Int) + 1) = (cnt (heldT H.ma p L1) K:Int) + 1:=IntWalk.i64_in _ (by omega)
         have hKi:(K:Int) < (H.m.fs.length:Int):=by omega
         have hpS3:=Lib.hid hpS2
         have hsS3:=Lib.hid hsS2
         clear hpS2 hsS2 hlt2 hk1 hnk hent hK
         go_wp2_with (refine wpList_stv rfl _ _ _ rfl gh K _ [.int .i64 ((cnt (heldT H.ma p L1) K:Int) + 1)] rfl rfl rfl _ _ hIh8 (by simp [cntL_len]; omega) int_one (fun u hu=>by cases List.mem_singleton.1 hu; rfl) ?_)
         intro w9 hb9 hg9
         rw [IB.set (by rw [cntL_len]; exact hKl),cntL_inc _ _ _ hKl,← heldT_snoc,← hpS3.out] at hb9
         rw [← hsS3.out] at hIs8
         have hbr9:=hbr8.grown hg9 hbr8.size (fun k hk=>by cases hk; exact hwh)
         have bx9:=bx8.grown hg9 (fun e=>hbh (Option.some.inj e).symm)
         have hIs9:IB w9 gs _:=Blk.grown hIs8 hg9 (fun e=>hne (Option.some.inj e))
         have hr9:MaR w9 H:=h.below hbr9
         obtain ⟨bs',os',P',hap',hP',hrd9'⟩:=ps_at hr9.sp.rd p hpl
         have hPP:P' = P:=by
          have h2:H.ma.sp[p]? = some P.sp:=hsP'.out
          rw [hPq.out] at hP'
          exact (Option.some.inj hP').symm
         subst hPP
         rw [hap] at hap'
         cases hap'
         have hg9':=hr9.ps P' (List.mem_of_getElem? hP')
         have ho9:=ho8.grown hg9 (fun g hv e=>by
          have:=ho8.ge g hv
          have e2:=Option.some.inj e
          omega)
         clear hbr8 bx8 hIs8 hIh8 hce ex hg9 hw1 hcx ho8 hrd8 hg8 hr9
         go_wp2
         go_roundw
         case rel=>exact ⟨j + 1,by omega,by go_num,hbr9,bx9,hb9,hIs9,by rw [← hpaQ.out]; exact ho9,hrd9',hg9',hz3⟩
         case measure=>simp [intOf]; omega
        ·obtain ⟨K,hK⟩:∃ K:Nat,e.n = K:=⟨e.n.toNat,by omega⟩
         have hk2:e.k = 2:=by omega
         have hKl:K < H.sl.length:=by have:=hlt2.1 hk2; omega
         have hpS2:=hpS'.out
         have hsS2:=hsS'.out
         rw [if_neg hk1,List.append_nil] at hpS2
         rw [if_neg hk1,hK] at hsS2
         rw [hk2,hK] at hce
         have hcx:=hIs8.cell (cntL_get H.sl.length (swapdT H.ma p L2) K hKl)
         have hcl2:=cnt_le (swapdT H.ma p L2) K
         have hw1:IntKind.i64.wrap ((cnt (swapdT H.ma p L2) K:Int) + 1) = (cnt (swapdT H.ma p L2) K:Int) + 1:=IntWalk.i64_in _ (by omega)
         have hKi:(K:Int) < (H.sl.length:Int):=by omega
         have hpS3:=Lib.hid hpS2
         have hsS3:=Lib.hid hsS2
         clear hpS2 hsS2 hlt2 hk1 hk2 hnk hent hK
         go_wp2_with (refine wpList_stv rfl _ _ _ rfl gs K _ [.int .i64 ((cnt (swapdT H.ma p L2) K:Int) + 1)] rfl rfl rfl _ _ hIs8 (by simp [cntL_len]; omega) int_one (fun u hu=>by cases List.mem_singleton.1 hu; rfl) ?_)
         intro w9 hb9 hg9
         rw [IB.set (by rw [cntL_len]; exact hKl),cntL_inc _ _ _ hKl,← swapdT_snoc,← hsS3.out] at hb9
         rw [← hpS3.out] at hIh8
         have hbr9:=hbr8.grown hg9 hbr8.size (fun k hk=>by cases hk; exact hws)
         have bx9:=bx8.grown hg9 (fun e=>hbs (Option.some.inj e).symm)
         have hIh9:IB w9 gh _:=Blk.grown hIh8 hg9 (fun e=>hne (Option.some.inj e).symm)
         have hr9:MaR w9 H:=h.below hbr9
         obtain ⟨bs',os',P',hap',hP',hrd9'⟩:=ps_at hr9.sp.rd p hpl
         have hPP:P' = P:=by
          have h2:H.ma.sp[p]? = some P.sp:=hsP'.out
          rw [hPq.out] at hP'
          exact (Option.some.inj hP').symm
         subst hPP
         rw [hap] at hap'
         cases hap'
         have hg9':=hr9.ps P' (List.mem_of_getElem? hP')
         have ho9:=ho8.grown hg9 (fun g hv e=>by
          have:=ho8.ge g hv
          have e2:=Option.some.inj e
          omega)
         clear hbr8 bx8 hIs8 hIh8 hce ex hg9 hw1 hcx ho8 hrd8 hg8 hr9
         go_wp2
         go_roundw
         case rel=>exact ⟨j + 1,by omega,by go_num,hbr9,bx9,hIh9,hb9,by rw [← hpaQ.out]; exact ho9,hrd9',hg9',hz3⟩
         case measure=>simp [intOf]; omega
       ·have hji:¬ (j:Int) < ((pagesL P.tb).length:Int):=by omega
        rw [List.take_of_length_le (by omega)] at hIh hIs hz2
        have hIh2:IB wr gh (cntL H.m.fs.length (heldT H.ma (p + 1) [])):=by rw [← heldT_next hsP'.out]; exact hIh
        have hIs2:IB wr gs (cntL H.sl.length (swapdT H.ma (p + 1) [])):=by rw [← swapdT_next hsP'.out]; exact hIs
        have hz3:Hid (∀ t ∈ H.ma.sp.take (p + 1),∀ i ∈ pagesL t.tb,entryE H.ma t i = 0):=Lib.hid fun t ht i hi=>by
         rw [take_at hsP'.out] at ht
         rcases List.mem_append.1 ht with ht | ht
         ·exact hz.out t ht i hi
         ·rw [List.mem_singleton.1 ht] at hi ⊢
          exact hz2.out i hi
        clear hIh hIs ho hrd hgood hz hz2
        go_wp2
        go_roundw
        case rel=>
         refine ⟨_,_,_,_,_,_,.int .i64 ((p:Int) + 1),⟨p + 1,by omega,?_,hIh2,hIs2,hz3⟩,rfl,rfl,rfl,rfl,rfl,rfl,rfl⟩
         go_num
        case measure=>simp [intOf]; omega
     ·have hpi:¬ (p:Int) < (H.sp.length:Int):=by omega
      have hpe:p = H.ma.sp.length:=by rw [spH]; omega
      rw [hpe,heldT_end] at hIh
      rw [hpe,swapdT_end] at hIs
      rw [hpe,List.take_length] at hz
      have hwr2:Hid (wrongMa H.ma = if countB H.ma = true then 0 else 7):=Lib.hid (by rw [hwr.out,if_neg (by rw [entries_all hz.out]; simp)])
      clear hz hwr hpe
      have hcb:=bx.cell
      unfold mhC at hcb
      go_upto_region 30 with (fail)
      clear hcb
      go_loopw [104] (fun i wr => ∃ (k:Nat),k ≤ H.m.fs.length ∧ i = .int .i64 k ∧ Below w.heap.size w wr ∧ Blk wr w.heap.size (mhC H) 40 ∧ IB wr gh (cntL H.m.fs.length (heldL H.ma)) ∧ IB wr gs (cntL H.sl.length (swapL H.ma)) ∧ Hid (∀ i,i < k → cndC H.ma i = true)) (fun i _=>H.m.fs.length - (intOf i).toNat)
      case atStart=>exact ⟨0,Nat.zero_le _,rfl,hbr,bx,hIh,hIs,Lib.hid fun i hi=>absurd hi (Nat.not_lt_zero _)⟩
      case round=>
       clear hbr bx hIh hIs
       obtain ⟨k,hk,rfl,hbr,bx,hIh,hIs,hz3⟩:=hrel
       by_cases hkl:k < H.m.fs.length
       ·obtain ⟨bg,og,haf,hrd⟩:=elemR frL_len (by decide) (h.below hbr).fr.rd k hkl
        have hki:(k:Int) < (H.m.fs.length:Int):=by omega
        have hxf:H.m.fs[k] = frN H.ma k:=by
         have:=frN_at (m:=H.ma) (f:=k) hkl
         have h2:H.m.fs[k]? = some (frN H.ma k):=this
         rw [List.getElem?_eq_getElem hkl] at h2
         exact Option.some.inj h2
        rw [hxf] at hrd
        have hcd:Hid (cndC H.ma k = (decide ((frN H.ma k).r = cnt (heldL H.ma) k) && (decide ((frN H.ma k).f < 0) || H.ca.any (isK (k:Int))))):=Lib.hid rfl
        generalize frN H.ma k = x at *
        rw [haf]
        clear hxf
        obtain ⟨gi,hgi⟩:∃ g,g = wr.heap.size:=⟨_,rfl⟩
        go_upto_region 31 with (fail)
        have hgl:gh < wr.heap.size ∧ gs < wr.heap.size:=⟨Blk.lt hIh,Blk.lt hIs⟩
        have hbl:=bx.lt
        have hbA:Below wr.heap.size wr ((wr.alloc (.cells #[.int .i64 0] 3)).alloc (.cells #[.int .u8 0,.int .u8 0,.int .u8 0,.int .u8 0,.int .u8 0,.int .u8 0,.int .u8 0,.int .u8 0,.int .i64 0,.bool false,.bool false,.int .i64 0,.int .i64 0] 59)):=((Below.refl _ _).alloc (Nat.le_refl _) _).alloc (by rw [show (wr.alloc (.cells #[.int .i64 0] 3)).heap.size = wr.heap.size + 1 from Array.size_push _]; omega) _
        have e1:(wr.alloc (.cells #[.int .i64 0] 3)).heap.size = wr.heap.size + 1:=Array.size_push _
        have hB1:Blk ((wr.alloc (.cells #[.int .i64 0] 3)).alloc (.cells #[.int .u8 0,.int .u8 0,.int .u8 0,.int .u8 0,.int .u8 0,.int .u8 0,.int .u8 0,.int .u8 0,.int .i64 0,.bool false,.bool false,.int .i64 0,.int .i64 0] 59)) wr.heap.size #[.int .i64 0] 3:=(Blk.new wr _ _).ext ((Below.refl _ _).alloc (Nat.le_refl _) _)
        have hB2:Blk ((wr.alloc (.cells #[.int .i64 0] 3)).alloc (.cells #[.int .u8 0,.int .u8 0,.int .u8 0,.int .u8 0,.int .u8 0,.int .u8 0,.int .u8 0,.int .u8 0,.int .i64 0,.bool false,.bool false,.int .i64 0,.int .i64 0] 59)) (wr.heap.size + 1) #[.int .u8 0,.int .u8 0,.int .u8 0,.int .u8 0,.int .u8 0,.int .u8 0,.int .u8 0,.int .u8 0,.int .i64 0,.bool false,.bool false,.int .i64 0,.int .i64 0] 59:=by rw [← e1]; exact Blk.new _ _ _
        go_wp2_with (first | (refine wpList_ldg _ _ rfl bg (og + k * 13) rfl rfl _ hrd _ Try.underlying59 rfl frame_size ?_) | (refine wpList_stv rfl _ _ _ rfl wr.heap.size 0 _ [.int .i64 (k:Int)] rfl rfl rfl _ _ hB1 (by show 0 + 1 ≤ 1; decide) int_one (fun u hu=>by cases List.mem_singleton.1 hu; rfl) ?_))
        intro w5 hb5 hg5
        have hb5' : Blk w5 wr.heap.size #[.int .i64 (k:Int)] 3:=hb5
        have hf5:=hB2.grown hg5 (fun e=>by have:=Option.some.inj e; omega)
        have hbA5:=hbA.grown hg5 hbA.size (fun k hk=>by cases hk; exact Nat.le_refl _)
        go_wp2_with (refine wpList_st rfl _ _ _ rfl (wr.heap.size + 1) 0 (frC x) rfl rfl _ _ hf5 (by show 0 + 13 ≤ 13; decide) frame_size (frC_one x) ?_)
        intro w6 hb6 hg6
        have fx6:Blk w6 (wr.heap.size + 1) (frC x) 59:=by
         have e2:=putAt_whole (#[.int .u8 0,.int .u8 0,.int .u8 0,.int .u8 0,.int .u8 0,.int .u8 0,.int .u8 0,.int .u8 0,.int .i64 0,.bool false,.bool false,.int .i64 0,.int .i64 0]) (frC x) rfl
         rw [← e2]; exact hb6
        have ix6:Blk w6 wr.heap.size #[.int .i64 (k:Int)] 3:=hb5'.grown hg6 (fun e=>by have:=Option.some.inj e; omega)
        have hbA6:=hbA5.grown hg6 hbA5.size (fun k hk=>by cases hk; omega)
        have hbr6:=below_next hbr hbA6
        have bx6:=bx.ext hbA6
        have hIh6:IB w6 gh _:=Blk.ext hIh hbA6
        have hIs6:IB w6 gs _:=Blk.ext hIs hbA6
        obtain ⟨gx,hgx⟩:∃ g,g = wr.heap.size + 1:=⟨_,rfl⟩
        rw [← hgx] at fx6 ⊢
        rw [← hgi] at ix6 ⊢
        clear hbA hbA5 hbA6 hB1 hB2 hb5 hb5' hf5 hg5 hg6 hb6 hrd hbr bx hIh hIs e1 hgl hbl hgx hgi
        go_upto_region 32 with (fail)
        by_cases c1:x.r = cnt (heldL H.ma) k
        ·by_cases c2:0 ≤ x.f
         ·skip
          refine wp_growP 19 [_,_,_,_,_,_,_,_,_,_,_,_,_,_,.v (.func (.func 41) #[] #[.pointer (some ⟨gi,0,none⟩)]),.v (.bool (H.ca.any (isK (k:Int)))),_,_,.v (.bool (!(H.ca.any (isK (k:Int)))))] (Gf gx 8 rfl rfl (Gl fx6 rfl rfl rfl rfl rfl (Gk rfl (Gl ix6 (V:=.int .i64 (k:Int)) rfl rfl rfl rfl rfl (Gr (.pointer (some ⟨gh,k,none⟩)) (fun ρ y W hb hk=>(run_idx1 rfl (kx_at rfl hk) (kx_at rfl hk) hkl Try.underlying28 int_one)) rfl rfl (Gc (.int .i64 (cnt (heldL H.ma) k:Int)) (fun W hb=>by simp [IB.cell (Blk.ext hIh6 hb) (cntL_get H.m.fs.length (heldL H.ma) k hkl)]) rfl rfl rfl rfl (Gb (.bool false) (by simp [go_sem,c1]) rfl rfl rfl rfl rfl (Gk rfl (Gf gx 11 rfl rfl (Gl fx6 rfl rfl rfl rfl rfl (Gb (.bool true) (by simp [go_sem,c2]) rfl rfl rfl rfl rfl (Gk rfl (Gf w.heap.size 9 rfl rfl (Gl bx6 rfl rfl rfl rfl rfl (all_cons ?_ (all_cons ?_ (Gr (.bool (!(H.ca.any (isK (k:Int))))) (fun ρ y W hb hk=>run_not rfl (kx_at rfl hk)) rfl rfl (Gk rfl (Gk rfl (all_nil)))))))))))))))))))) (fun _=>rfl) rfl ?_
          ·intro ρ y W hw hn hb hd; have E15:ρ (.tmp 15) = .pointer (some ⟨gi,0,none⟩):=(hn (.tmp 15) rfl).trans rfl
           refine asked_val (.func (.func 41) #[] #[.pointer (some ⟨gi,0,none⟩)]) (want_at 11 120 true true rfl rfl ((hw 120 11 rfl).trans (hd 11 rfl))) (by simp [execOp,go_sem,E15]) rfl
          ·intro ρ y W hw hn hb hd; have E122:=hw 122 13 rfl; have h13:y 13 = _:=hd 13 rfl; have E123:=hw 123 14 rfl; have h14:y 14 = _:=hd 14 rfl
           have EF:∀ f,ρ (.func f) = .func (.func f) #[] #[]:=fun f=>hn (.func f) trivial
           refine asked_call _ _ (want_at 11 120 true true rfl rfl ((hw 120 11 rfl).trans (hd 11 rfl))) (run_call rfl (EF _) Try.func40 (by kernel_rfl) (by kernel_rfl) (by simp only [List.map_toArray,List.map_cons,List.map_nil,E122,h13,E123,h14,EF]; rfl)) ?_
           refine (conk_any H.ca _ _ W ((h.below hbr6).below hb).ca.rd (by omega) gi k (ix6.ext hb)).mono ?_
           rintro r w1 ⟨rfl,hb1⟩
           exact ⟨_,rfl,hb1,rfl⟩
          intro y W7 hbW7 _
          have hbr7:=below_next hbr6 hbW7
          have bx7:=bx6.ext hbW7
          have hIh7:=Blk.ext hIh6 hbW7
          have hIs7:=Blk.ext hIs6 hbW7
          clear hbW7 hbr6 bx6 hIh6 hIs6 ix6 fx6
          cases hA:H.ca.any (isK (k:Int)) with
          | true=>
           have hcnd:Hid (cndC H.ma k = true):=Lib.hid (by rw [hcd.out,decide_eq_true c1,hA]; simp)
           clear c1 c2
           have hall:Hid (∀ i,i < k + 1 → cndC H.ma i = true):=Lib.hid fun i hi=>by
            by_cases e:i = k
            ·rw [e]; exact hcnd.out
            ·exact hz3.out i (by omega)
           go_wp2
           go_roundw
           case rel=>exact ⟨k + 1,by omega,by go_num,hbr7,bx7,hIh7,hIs7,hall⟩
           case measure=>simp [intOf]; omega
          | false=>
           have hcnd:Hid (cndC H.ma k = false):=Lib.hid (by rw [hcd.out,decide_eq_true c1,hA,decide_eq_false (by omega)]; rfl)
           clear c1 c2
           have hq:Hid (wrongMa H.ma = 7):=Lib.hid (by rw [hwr2.out,if_neg]; intro hcb; exact absurd (count_at hcb k hkl) (by rw [hcnd.out]; decide))
           go_wp2
           go_ret
           rw [hq.out]
           exact ⟨rfl,hbr7⟩
         ·have hcnd:Hid (cndC H.ma k = true):=Lib.hid (by rw [hcd.out,decide_eq_true c1,decide_eq_true (by omega)]; rfl)
          refine wp_growP 19 [_,_,_,_,_,_,_,_,_,_,_,_,_,_,_,_,_,_,.v (.bool false)] (Gf gx 8 rfl rfl (Gl fx6 rfl rfl rfl rfl rfl (Gk rfl (Gl ix6 (V:=.int .i64 (k:Int)) rfl rfl rfl rfl rfl (Gr (.pointer (some ⟨gh,k,none⟩)) (fun ρ y W hb hk=>(run_idx1 rfl (kx_at rfl hk) (kx_at rfl hk) hkl Try.underlying28 int_one)) rfl rfl (Gc (.int .i64 (cnt (heldL H.ma) k:Int)) (fun W hb=>by simp [IB.cell (Blk.ext hIh6 hb) (cntL_get H.m.fs.length (heldL H.ma) k hkl)]) rfl rfl rfl rfl (Gb (.bool false) (by simp [go_sem,c1]) rfl rfl rfl rfl rfl (Gk rfl (Gf gx 11 rfl rfl (Gl fx6 rfl rfl rfl rfl rfl (Gb (.bool false) (by simp [go_sem,c2]) rfl rfl rfl rfl rfl (Gk rfl (Gk rfl (Gk rfl (Gk rfl (Gk rfl (Gk rfl (Gk rfl (Gk rfl (all_nil)))))))))))))))))))) (fun _=>rfl) rfl ?_
          intro y W7 hbW7 _
          have hbr7:=below_next hbr6 hbW7
          have bx7:=bx6.ext hbW7
          have hIh7:=Blk.ext hIh6 hbW7
          have hIs7:=Blk.ext hIs6 hbW7
          clear hbW7 hbr6 bx6 hIh6 hIs6 ix6 fx6
          clear c1 c2
          have hall:Hid (∀ i,i < k + 1 → cndC H.ma i = true):=Lib.hid fun i hi=>by
           by_cases e:i = k
           ·rw [e]; exact hcnd.out
           ·exact hz3.out i (by omega)
          go_wp2
          go_roundw
          case rel=>exact ⟨k + 1,by omega,by go_num,hbr7,bx7,hIh7,hIs7,hall⟩
          case measure=>simp [intOf]; omega
        ·have hcnd:Hid (cndC H.ma k = false):=Lib.hid (by rw [hcd.out,decide_eq_false c1]; rfl)
         refine wp_growP 19 [_,_,_,_,_,_,_,_,_,_,_,_,_,_,_,_,_,_,.v (.bool true)] (Gf gx 8 rfl rfl (Gl fx6 rfl rfl rfl rfl rfl (Gk rfl (Gl ix6 (V:=.int .i64 (k:Int)) rfl rfl rfl rfl rfl (Gr (.pointer (some ⟨gh,k,none⟩)) (fun ρ y W hb hk=>(run_idx1 rfl (kx_at rfl hk) (kx_at rfl hk) hkl Try.underlying28 int_one)) rfl rfl (Gc (.int .i64 (cnt (heldL H.ma) k:Int)) (fun W hb=>by simp [IB.cell (Blk.ext hIh6 hb) (cntL_get H.m.fs.length (heldL H.ma) k hkl)]) rfl rfl rfl rfl (Gb (.bool true) (by simp [go_sem,c1]) rfl rfl rfl rfl rfl (Gk rfl (Gk rfl (Gk rfl (Gk rfl (Gk rfl (Gk rfl (Gk rfl (Gk rfl (Gk rfl (Gk rfl (Gk rfl (Gk rfl (all_nil)))))))))))))))))))) (fun _=>rfl) rfl ?_
         intro y W7 hbW7 _
         have hbr7:=below_next hbr6 hbW7
         have bx7:=bx6.ext hbW7
         have hIh7:=Blk.ext hIh6 hbW7
         have hIs7:=Blk.ext hIs6 hbW7
         clear hbW7 hbr6 bx6 hIh6 hIs6 ix6 fx6
         clear c1
         have hq:Hid (wrongMa H.ma = 7):=Lib.hid (by rw [hwr2.out,if_neg]; intro hcb; exact absurd (count_at hcb k hkl) (by rw [hcnd.out]; decide))
         go_wp2
         go_ret
         rw [hq.out]
         exact ⟨rfl,hbr7⟩
       ·have hki:¬ (k:Int) < (H.m.fs.length:Int):=by omega
        have hrs:=(h.below hbr).sl
        have hIsr:RdV wr (some ⟨gs,0,none⟩) ((cntL H.sl.length (swapL H.ma)).map inV):=fun i u hi=>⟨gs,0,rfl,by rw [Nat.zero_add,Blk.cell hIs]; simpa using hi⟩
        have hcb:=bx.cell
        unfold mhC at hcb
        have hll:=Lib.hid (cntL_len H.sl.length (swapL H.ma))
        have hq:Hid (wrongMa H.ma = if H.sl = cntL H.sl.length (swapL H.ma) then 0 else 7):=Lib.hid (by
         rw [hwr2.out,countB_c,List.all_eq_true.2 (fun i hi=>hz3.out i (by have:=List.mem_range.1 hi; have e:H.ma.m.fs.length = H.m.fs.length:=rfl; omega)),Bool.true_and]
         show (if decide (H.sl = cntL H.sl.length (swapL H.ma)) = true then (0:Int) else 7) = _
         by_cases e:H.sl = cntL H.sl.length (swapL H.ma)
         ·rw [if_pos e,if_pos (decide_eq_true e)]
         ·rw [if_neg e,if_neg (by simp [e])])
        have hsl60:=n2
        generalize hC:cntL H.sl.length (swapL H.ma) = C at *
        clear hz3 hwr2 hC
        go_wp2_with fail
        rw [show (Value.slice (some ⟨gs,0,none⟩) H.sl.length H.sl.length) = .slice (some ⟨gs,0,none⟩) C.length H.sl.length from by rw [hll.out]]
        refine (eqslots_any H.sl C H.asl (some ⟨gs,0,none⟩) H.csl H.sl.length _ hrs.rd hIsr (by omega) (by rw [hll.out]; omega)).mono ?_
        rintro r w5 ⟨rfl,hb5⟩
        by_cases e:H.sl = C
        ·rw [show (H.sl == C) = true from by rw [beq_iff_eq]; exact e]
         have hq0:Hid (wrongMa H.ma = 0):=Lib.hid (by rw [hq.out,if_pos e])
         clear e hcb
         go_wp2
         go_ret
         rw [hq0.out]
         exact ⟨rfl,below_next hbr hb5⟩
        ·rw [show (H.sl == C) = false from by rw [beq_eq_false_iff_ne]; exact e]
         have hq0:Hid (wrongMa H.ma = 7):=Lib.hid (by rw [hq.out,if_neg e])
         clear e hcb
         go_wp2
         go_ret
         rw [hq0.out]
         exact ⟨rfl,below_next hbr hb5⟩
theorem blk_ne {w:World} {a b:Nat} {cs cs' : Array Value} {T T' : TypeId} (h:Blk w a cs T) (h' : Blk w b cs' T') (hT:T ≠ T'):a ≠ b:=by
 rintro rfl
 unfold Blk at h h'
 rw [h] at h'
 simp only [Option.some.injEq,Obj.cells.injEq] at h'
 exact hT h'.2.1
def memO (B:Nat) (m:Mem):Rel:=⟨fun v w => ∃ u,v = .agg #[u,.int .i64 m.hand] ∧ Own w B 59 13 u m.fs.length (m.fs.flatMap frL),fun _ _ _ hb ⟨u,h1,h2⟩=>⟨u,h1,h2.below hb⟩⟩
theorem ccs_len (l:List Cc):(l.flatMap ccL).length = l.length * 3:=Pw.flat_len ccL 3 ccL_len l
theorem ccL_one (c:Cc):∀ u ∈ ccL c,u.oneCell' = true:=one_toList (ccC_one c)
theorem ccs_one (l:List Cc):∀ u ∈ l.flatMap ccL,u.oneCell' = true:=by
 intro u hu
 obtain ⟨c,_,hc⟩:=List.mem_flatMap.1 hu
 exact ccL_one c u hc
def stoR (B:Nat) (S:St):Rel:=⟨fun v w => ∃ u ps k,v = .agg #[u,.int .i64 k] ∧ FsO w B u ps ∧ stOf ps k = S,fun _ _ _ hb ⟨u,ps,k,h1,h2,h3⟩=>⟨u,ps,k,h1,h2.below hb,h3⟩⟩
end Go.Proofs.Ytkjobhcnlppcnaa
namespace Pw
open Go Go.RowKit
theorem wp_mono' {P:Program} {Q:Exit → Act → World → Prop} {o:Oper} {a:Act} {w:World} {K K' : Act → World → Prop} (h:∀ v D w,K (Act.put { a with defers:=D } o.dst v) w → K' (Act.put { a with defers:=D } o.dst v) w)
  (hh:o.wp P a w K Q):o.wp P a w K' Q:=by
 unfold Oper.wp at *
 generalize (execOp a.eval o).run P w = r at *
 cases r with
 | ok n w'=>
  cases n <;> simp only [Oper.upon] at hh ⊢ <;>
   first
    | exact h _ a.defers _ hh
    | exact h _ _ _ hh
    | exact Calls.mono hh (fun e w'' he=>by cases e <;> first | exact h _ a.defers _ he | exact he)
    | exact Rows.mono hh (fun _ _ he=>h _ a.defers _ he)
 | halt x w'=>cases x <;> simp only [Oper.upon] at hh ⊢ <;> exact hh
def freeO (v:Value) (o:Oper):Oper:={ o with op:=.move (.const v) }
def freed (ops:Array Oper) (p:Nat) (v:Value):Array Oper:=ops.modify p (freeO v)
theorem freed_get (ops:Array Oper) (p:Nat) (v:Value) (i:Nat):(freed ops p v)[i]? = if p = i then (ops[i]?).map (freeO v) else ops[i]?:=by
 unfold freed
 rw [Array.getElem?_modify]
theorem freed_size (ops:Array Oper) (p:Nat) (v:Value):(freed ops p v).size = ops.size:=by unfold freed; simp
theorem freed_ready (ops:Array Oper) (p:Nat) (v:Value) (listed:Array Bool):Region.ready .any (freed ops p v) listed = Region.ready .any ops listed:=by
 unfold Region.ready
 rw [freed_size]
 apply List.filter_congr
 intro i _
 congr 1
 rw [freed_get]
 by_cases e:p = i
 ·rw [if_pos e]
  cases ops[i]? <;> rfl
 ·rw [if_neg e]
theorem freed_yielded (ops:Array Oper) (p:Nat) (v:Value) (ts:Array Value):yielded (freed ops p v) ts = yielded ops ts:=by
 funext g
 unfold yielded
 rw [freed_get]
 by_cases e:p = g
 ·rw [if_pos e]
  cases ops[g]? <;> rfl
 ·rw [if_neg e]
def freeOk (ops:Array Oper) (p d:Nat):Bool:=
 (match ops[p]? with
  | some o=>(match o.op with
   | .move (.tmp t)=>decide (t = d) && o.guard.isNone && decide (o.dst ≠ some d)
   | _=>false)
  | none=>false) &&
 (List.range ops.size).all fun i=>match ops[i]? with
  | none=>true
  | some o=>decide (o.dst ≠ some d) || o.after.toList.any fun e=>decide (e.on = p) && Region.binds .any e
theorem put_eval {a:Act} {D:List Deferred} {dst:Option Tmp} {v:Value} {d:Nat} (h:dst ≠ some d):(Act.put { a with defers:=D } dst v).eval (.tmp d) = a.eval (.tmp d):=by
 cases dst with
 | none=>rfl
 | some t=>
  have ht:t ≠ d:=fun e=>h (by rw [e])
  simp [Act.put,Act.eval,Array.getElem?_setIfInBounds,ht]
theorem ready_edge {ops:Array Oper} {listed:Array Bool} {i:Nat} {o:Oper} (hi:i ∈ Region.ready .any ops listed) (ho:ops[i]? = some o):listed.getD i false = false ∧ ∀ e ∈ o.after,Region.binds .any e = true → listed.getD e.on false = true:=by
 obtain ⟨h1,o',ho',h2⟩:=mem_ready.1 hi
 rw [ho] at ho'
 cases ho'
 refine ⟨?_,h2⟩
 rw [Array.getD_eq_getD_getElem?] at h1 ⊢
 cases h:listed[i]? with
 | none=>rfl
 | some b=>rw [h] at h1; exact h1
theorem free_any {P:Program} {ops:Array Oper} {Q:Exit → Act → World → Prop} {p d:Nat} {v:Value} (hok0:freeOk ops p d = true):∀ (fuel:Nat) (listed:Array Bool) (a:Act) (w:World),(listed.getD p false = false → a.eval (.tmp d) = v) → wpAny P .any (freed ops p v) Q fuel listed a w → wpAny P .any ops Q fuel listed a w
 | 0,listed,a,w,hI,h=>by
  unfold wpAny at h ⊢
  rw [freed_ready] at h
  exact h
 | fuel + 1,listed,a,w,hI,h=>by
  unfold wpAny at h ⊢
  rw [freed_ready] at h
  refine ⟨h.1,fun i hi => ?_⟩
  have hw:=h.2 i hi
  have hup:(listed.setIfInBounds i true).getD p false = false → listed.getD p false = false:=fun h'=>by
   cases hl:listed.getD p false with
   | false=>rfl
   | true=>
    exfalso
    by_cases hs:i < listed.size
    ·rw [listed_up hs p hl] at h'; cases h'
    ·have e:listed.setIfInBounds i true = listed:=by rw [Array.setIfInBounds_eq_of_size_le (by omega)]
     rw [e,hl] at h'; cases h'
  have hok:=hok0
  unfold freeOk at hok
  rw [Bool.and_eq_true] at hok
  obtain ⟨hp,hall⟩:=hok
  unfold wpOp at hw ⊢
  rw [freed_get,freed_yielded] at hw
  cases ho:ops[i]? with
  | none=>
   rw [ho] at hw
   have hw' : wpAny P .any (freed ops p v) Q fuel (listed.setIfInBounds i true) a w:=by
    by_cases e:p = i
    ·rw [if_pos e] at hw; exact hw
    ·rw [if_neg e] at hw; exact hw
   exact free_any hok0 fuel _ a w (fun h'=>hI (hup h')) hw'
  | some o=>
   rw [ho] at hw
   have hilt:i < ops.size:=(Array.getElem?_eq_some_iff.1 ho).1
   have hedge:=ready_edge hi ho
   by_cases e:p = i
   ·subst e
    rw [if_pos rfl] at hw
    simp only [Option.map_some] at hw
    rw [ho] at hp
    simp only at hp
    cases hop:o.op with
    | move x=>
     rw [hop] at hp
     cases x with
     | tmp t=>
      simp only [Bool.and_eq_true,decide_eq_true_eq] at hp
      obtain ⟨⟨rfl,hg⟩,hdst⟩:=hp
      have hev:a.eval (.tmp t) = v:=hI hedge.1
      have hex:execOp a.eval (freeO v o) = execOp a.eval o:=by
       unfold execOp freeO
       simp only [hop]
       rw [hev]; rfl
      have hnext:∀ (v' : Value) (D:List Deferred) (w:World),wpAny P .any (freed ops p v) Q fuel (listed.setIfInBounds p true) (Act.put { a with defers:=D } o.dst v') w → wpAny P .any ops Q fuel (listed.setIfInBounds p true) (Act.put { a with defers:=D } o.dst v') w:=
       fun v' D w hh=>free_any hok0 fuel _ _ w (fun _=>by rw [put_eval hdst]; exact hev) hh
      simp only
      have hwt:Region.wanted (freeO v o) (yielded ops a.tmps) = Region.wanted o (yielded ops a.tmps):=rfl
      rw [hwt] at hw
      split
      ·rename_i hwant
       rw [if_pos hwant] at hw
       rcases hw with hw | hw
       ·refine .inl (wp_mono' hnext ?_)
        unfold Oper.wp at hw ⊢
        rw [← hex]; exact hw
       ·refine .inr ⟨?_,hw.2⟩
        have:=hw.1
        unfold Oper.asks at this ⊢
        rw [← hex]; exact this
      ·rename_i hwant
       rw [if_neg hwant] at hw
       exact hnext undef a.defers w hw
     | _=>cases hp
    | _=>rw [hop] at hp; cases hp
   ·rw [if_neg e] at hw
    simp only at hw ⊢
    have ho2:=List.all_eq_true.1 hall i (List.mem_range.2 hilt)
    rw [ho] at ho2
    simp only [Bool.or_eq_true,decide_eq_true_eq] at ho2
    have hnext:∀ (v' : Value) (D:List Deferred) (w:World),wpAny P .any (freed ops p v) Q fuel (listed.setIfInBounds i true) (Act.put { a with defers:=D } o.dst v') w → wpAny P .any ops Q fuel (listed.setIfInBounds i true) (Act.put { a with defers:=D } o.dst v') w:=by
     intro v' D w hh
     refine free_any hok0 fuel _ _ w (fun h' => ?_) hh
     rcases ho2 with h2 | h2
     ·rw [put_eval h2]; exact hI (hup h')
     ·rw [List.any_eq_true] at h2
      obtain ⟨e',he',h3⟩:=h2
      rw [Bool.and_eq_true,decide_eq_true_eq] at h3
      have:=hedge.2 e' (Array.mem_toList_iff.1 he') h3.2
      rw [h3.1] at this
      rw [hup h'] at this; cases this
    split
    ·rename_i hwant
     rw [if_pos hwant] at hw
     exact hw.imp (wp_mono' hnext) id
    ·rename_i hwant
     rw [if_neg hwant] at hw
     exact hnext undef a.defers w hw
theorem wp_region_growC0 {P : Program} {ops : Array Oper} {Q : Exit → Act → World → Prop} {a0 : Act} {w0 : World} (m k1 : Nat) (ps : List (Nat × Value)) (hok : growOk ops = true) (ht : tailOkT ops k1 = true) (hcok : cOk ops m ps = true) (hmid : midOk m k1 ps = true) (hpu : puOk ops m ps = true) (hmk : m < k1) (hk1 : k1 ≤ ops.size)
    (R : Nat → Value → World → Prop) (hstab : ∀ i v w w', Below w.heap.size w w' → R i v w → R i v w')
    (hstep : ∀ i o, i < m → puOf ps i = none → ops[i]? = some o → ∀ y w, (∀ i v, puOf ps i = some v → y i = v) → Below w0.heap.size w0 w → (∀ j, o.after.toList.any (fun e => e.on == j) = true → match puOf ps j with | some v => y j = v | none => R j (y j) w) →
      if Region.wanted o (yielded ops (lay (fun _ => true) y ops.toList 0 a0.tmps)) = true then Gives P o { a0 with tmps := lay (fun _ => true) y ops.toList 0 a0.tmps } w (fun v w' => Below w.heap.size w w' ∧ R i v w') else R i undef w)
    (hpure : ∀ i v o, puOf ps i = some v → ops[i]? = some o → ∀ y w, (∀ i v, puOf ps i = some v → y i = v) →
      Region.wanted o (yielded ops (lay (fun _ => true) y ops.toList 0 a0.tmps)) = true ∧ (execOp ({ a0 with tmps := lay (fun _ => true) y ops.toList 0 a0.tmps } : Act).eval o).run P w = .ok (.value v) w)
    (hend : ∀ y w o, ops[m]? = some o → (∀ i v, puOf ps i = some v → y i = v) → Below w0.heap.size w0 w → (∀ i, i < m → match puOf ps i with | some v => y i = v | none => R i (y i) w) →
      Region.wanted o (yielded ops (lay (fun _ => true) y ops.toList 0 a0.tmps)) = true ∧
      Gives P o { a0 with tmps := lay (fun _ => true) y ops.toList 0 a0.tmps } w fun v w' => wpList P ops Q (ops.toList.drop k1) { a0 with tmps := lay (fun i => decide (i < k1)) (fun i => if i = m then v else y i) ops.toList 0 a0.tmps } w') :
    wpAny P .any ops Q ops.size (Array.replicate ops.size false) a0 { w0 with drawn := w0.drawn + 1 } := by
  have hall : ∀ (fuel : Nat) (listed : Array Bool) (a : Act) (w : World), listed.size = ops.size → listed.toList.countP (!·) ≤ fuel → AmidC P ops Q m k1 ps R a0 w0 listed a w → wpAny P .any ops Q fuel listed a w := by
    have hfin : ∀ (fuel : Nat) (listed : Array Bool) (a : Act) (w : World), listed.size = ops.size → listed.toList.countP (!·) ≤ fuel → AmidC P ops Q m k1 ps R a0 w0 listed a w → (∀ i, i < k1 → listed.getD i false = true) → wpAny P .any ops Q fuel listed a w := by
      intro fuel listed a w hsz hc hA hfull
      obtain ⟨hno, hcl, y, hV, ha, hph⟩ := hA
      have hL : ∀ i, i < ops.size → listed.getD i false = decide (i < k1) := by
        intro i hi
        by_cases him : i < k1
        · rw [hfull i him]; simp [him]
        · rw [hno i (by omega)]; simp [him]
      rcases hph with ⟨h1, _⟩ | ⟨_, hw⟩
      · rw [hfull m hmk] at h1; cases h1
      · refine tail_anyT (m := k1) hok ht fuel k1 listed a w (Nat.le_refl _) hk1 (by have := count_tail hsz hk1 hL; omega) hsz hL ?_
        rw [ha, lay_congr (fun i => listed.getD i false) (fun i => decide (i < k1)) y ops.toList 0 a0.tmps (fun k hk => by
          simp only [Nat.zero_add]
          exact hL k (by simpa using hk))]
        exact hw
    intro fuel
    induction fuel with
    | zero =>
      intro listed a w hsz hc hA
      refine hfin 0 listed a w hsz hc hA fun i hi => ?_
      have h0 : listed.toList.countP (!·) = 0 := by omega
      have := List.countP_eq_zero.1 h0 (listed[i]'(by omega)) (by simp)
      simpa [Array.getD_eq_getD_getElem?, show i < listed.size by omega] using this
    | succ fuel ih =>
      intro listed a w hsz hc hA
      by_cases hfull : ∀ i, i < k1 → listed.getD i false = true
      · exact hfin _ listed a w hsz hc hA hfull
      · have hready0 : Region.ready .any ops listed ≠ [] := by
          intro hready
          apply hfull
          intro i
          induction i using Nat.strongRecOn with
          | ind i ih' =>
            intro him
            by_cases hc' : listed.getD i false = true
            · exact hc'
            · exfalso
              have hi : i < ops.size := by omega
              have hmem : i ∈ Region.ready .any ops listed := by
                rw [mem_ready]
                refine ⟨?_, ops[i], by simp [hi], fun e he _ => ?_⟩
                · simpa [Array.getD_eq_getD_getElem?, show i < listed.size by omega] using hc'
                · have := (growOk_at hok (i := i) (o := ops[i]) (by simp [hi])).2.1 e he
                  exact ih' e.on this.2 (by omega)
              rw [hready] at hmem
              cases hmem
        refine ⟨fun h => absurd h hready0, fun i hi => ?_⟩
        obtain ⟨h1, o, ho, hdeps⟩ := mem_ready.1 hi
        have hlt : i < ops.size := (Array.getElem?_eq_some_iff.1 ho).1
        have hls : i < listed.size := by omega
        obtain ⟨hsel, hbinds, _⟩ := growOk_at hok ho
        have hL : ∀ e ∈ o.after, listed.getD e.on false = true := fun e he => hdeps e he (hbinds e he).1
        have hnl : listed.getD i false = false := by simpa [Array.getD_eq_getD_getElem?, hls] using h1
        have him : i < k1 := by
          rcases Nat.lt_or_ge i k1 with h | h
          · exact h
          · exfalso
            apply hfull
            intro j hj
            exact tailOkT_at ht hA.2.1 ho hL h j (by omega)
        obtain ⟨hno, hcl, y, hV, ha, hph⟩ := hA
        have hcl' : ∀ k o', ops[k]? = some o' → (listed.setIfInBounds i true).getD k false = true → ∀ e ∈ o'.after, (listed.setIfInBounds i true).getD e.on false = true := by
          intro k o' ho' hk e he
          apply listed_up hls
          by_cases hki : k = i
          · subst hki
            rw [ho] at ho'
            cases ho'
            exact hL e he
          · rw [listed_ne hki] at hk
            exact hcl k o' ho' hk e he
        have hno' : ∀ k, k1 ≤ k → (listed.setIfInBounds i true).getD k false = false := fun k hk => by rw [listed_ne (by omega)]; exact hno k hk
        have hnext : ∀ v w' y', (∀ k, y' k = if k = i then v else y k) → (∀ i v, puOf ps i = some v → y' i = v) →
            (((listed.setIfInBounds i true).getD m false = false ∧ Below w0.heap.size w0 w' ∧ ∀ k, k < m → puOf ps k = none → (listed.setIfInBounds i true).getD k false = true → R k (y' k) w') ∨
             ((listed.setIfInBounds i true).getD m false = true ∧ wpList P ops Q (ops.toList.drop k1) { a0 with tmps := lay (fun i => decide (i < k1)) y' ops.toList 0 a0.tmps } w')) →
            wpAny P .any ops Q fuel (listed.setIfInBounds i true) (a.put o.dst v) w' := by
          intro v w' y' hy' hV' hph'
          obtain rfl : y' = fun k => if k = i then v else y k := funext hy'
          refine ih _ _ _ (by simp [hsz]) (count_less hls h1 hc) ⟨hno', hcl', _, hV', ?_, hph'⟩
          rw [ha, lay_put hok ho hsz v]
        have heval : ∀ t ∈ o.looksAt ops, a.tmps[t]? = (lay (fun _ => true) y ops.toList 0 a0.tmps)[t]? := fun t ht => by
          rw [ha]; exact evals_lay hok ho hL t ht
        have hexec : execOp a.eval o = execOp ({ a0 with tmps := lay (fun _ => true) y ops.toList 0 a0.tmps } : Act).eval o := by
          refine execOp_congr o hsel fun x hx => ?_
          cases x with
          | tmp t =>
            have := heval t (List.mem_append_left _ (List.mem_filterMap.2 ⟨.tmp t, by simpa using hx, rfl⟩))
            simp [Act.eval, this]
          | _ => rfl
        have hwant : Region.wanted o (yielded ops a.tmps) = Region.wanted o (yielded ops (lay (fun _ => true) y ops.toList 0 a0.tmps)) := by
          unfold Region.wanted
          cases hg : o.guard with
          | none => rfl
          | some gw =>
            obtain ⟨g, want⟩ := gw
            have : yielded ops a.tmps g = yielded ops (lay (fun _ => true) y ops.toList 0 a0.tmps) g := by
              unfold yielded
              cases hd : (ops[g]?).bind (·.dst) with
              | none => rfl
              | some t =>
                have := heval t (List.mem_append_right _ (by simp [hg, hd]))
                simp [this]
            simp only [this]
        cases hp : puOf ps i with
        | some v =>
          have hne := (pu_at hpu ho hp).1
          obtain ⟨hw1, hr1⟩ := hpure i v o hp ho y w hV
          have hg : Gives P o { a0 with tmps := lay (fun _ => true) y ops.toList 0 a0.tmps } w (fun u w' => u = v ∧ w' = w) := by
            unfold Gives
            rw [hr1]
            exact ⟨rfl, rfl⟩
          refine gives_wpOp ho (by rw [hwant]; exact hw1) hexec hg fun u w' hu => ?_
          obtain ⟨rfl, rfl⟩ := hu
          refine hnext u w' y (fun k => ?_) hV ?_
          · by_cases hk : k = i
            · subst hk; rw [if_pos rfl]; exact hV _ _ hp
            · rw [if_neg hk]
          · rcases hph with ⟨h2, h3, h4⟩ | ⟨h2, h3⟩
            · refine .inl ⟨by rw [listed_ne (Ne.symm hne)]; exact h2, h3, fun k hk hpk hLk => ?_⟩
              have hki : k ≠ i := by rintro rfl; rw [hp] at hpk; cases hpk
              rw [listed_ne hki] at hLk
              exact h4 k hk hpk hLk
            · exact .inr ⟨listed_up hls _ h2, h3⟩
        | none =>
          have hile : i ≤ m := by
            rcases Nat.lt_or_ge m i with h | h
            · obtain ⟨v, hv⟩ := mid_at hmid i him h
              rw [hp] at hv
              cases hv
            · exact h
          rcases hph with ⟨h2, h3, h4⟩ | ⟨h2, h3⟩
          · by_cases hic : i = m
            · subst hic
              have hRall : ∀ k, k < i → match puOf ps k with | some v => y k = v | none => R k (y k) w := by
                intro k hk
                cases hpk : puOf ps k with
                | some v => exact hV k v hpk
                | none => exact h4 k hk hpk (cOk_at hcok hcl (fun o' ho' => by rw [ho] at ho'; cases ho'; exact hL) k hk hpk)
              obtain ⟨hw1, hg⟩ := hend y w o ho hV h3 hRall
              refine gives_wpOp ho (by rw [hwant]; exact hw1) hexec hg fun v w' hwp => ?_
              refine hnext v w' (fun k => if k = i then v else y k) (fun _ => rfl) (fun k u hku => ?_) (.inr ⟨listed_self hls, hwp⟩)
              have : k ≠ i := by rintro rfl; rw [hp] at hku; cases hku
              simp only [this, if_false]
              exact hV k u hku
            · have hilt : i < m := by omega
              have hs := hstep i o hilt hp ho y w hV h3 (fun j hj => by
                obtain ⟨e, he, hej⟩ := List.any_eq_true.1 hj
                have hej' : e.on = j := by simpa using hej
                subst hej'
                have he' := Array.mem_toList_iff.1 he
                cases hpj : puOf ps e.on with
                | some v => exact hV _ _ hpj
                | none => exact h4 e.on (by have := (hbinds e he').2; omega) hpj (hL e he'))
              have hgo : ∀ v w', Below w.heap.size w w' → R i v w' → wpAny P .any ops Q fuel (listed.setIfInBounds i true) (a.put o.dst v) w' := by
                intro v w' hbw hv
                refine hnext v w' (fun k => if k = i then v else y k) (fun _ => rfl) (fun k u hku => ?_) (.inl ⟨by rw [listed_ne (Ne.symm hic)]; exact h2, h3.trans (hbw.mono h3.size), fun k hk hpk hLk => ?_⟩)
                · have : k ≠ i := by rintro rfl; rw [hp] at hku; cases hku
                  simp only [this, if_false]
                  exact hV k u hku
                · by_cases hki : k = i
                  · subst hki; simpa using hv
                  · rw [listed_ne hki] at hLk
                    simp only [hki, if_false]
                    exact hstab _ _ _ _ hbw (h4 k hk hpk hLk)
              by_cases hwt : Region.wanted o (yielded ops (lay (fun _ => true) y ops.toList 0 a0.tmps)) = true
              · rw [if_pos hwt] at hs
                exact gives_wpOp ho (by rw [hwant]; exact hwt) hexec hs fun v w' h => hgo v w' h.1 h.2
              · rw [if_neg hwt] at hs
                unfold wpOp
                simp only [ho]
                rw [if_neg (by rw [hwant]; exact hwt)]
                exact hgo undef w (Below.refl _ _) hs
          · exfalso
            by_cases hic : i = m
            · subst hic; rw [hnl] at h2; cases h2
            · have hmo : ∃ om, ops[m]? = some om := ⟨ops[m]'(by omega), by simp [show m < ops.size by omega]⟩
              obtain ⟨om, hom⟩ := hmo
              have := cOk_at hcok hcl (fun o' ho' => hcl m o' ho' h2) i (by omega) hp
              rw [hnl] at this
              cases this
  refine (hall ops.size _ _ _ (by simp) ?_ ⟨fun i _ => ?_, fun i o' ho' hi => ?_, fun i => (puOf ps i).getD undef, fun i v h => (by show (puOf ps i).getD undef = v; rw [h]; rfl), ?_, .inl ⟨?_, ?_, ?_⟩⟩)
  · simpa using List.countP_le_length (p := (!·)) (l := List.replicate ops.size false)
  · simp [Array.getD_eq_getD_getElem?, Array.getElem?_replicate]; split <;> rfl
  · exfalso
    have : i < ops.size := (Array.getElem?_eq_some_iff.1 ho').1
    simp [Array.getD_eq_getD_getElem?, this] at hi
  · have e : ∀ y, lay (fun i => (Array.replicate ops.size false).getD i false) y ops.toList 0 a0.tmps = a0.tmps := by
      intro y
      apply Array.ext_getElem?
      intro s
      exact lay_none _ _ s _ 0 _ fun k o' hk hd => by simp [Array.getD_eq_getD_getElem?, Array.getElem?_replicate]; split <;> rfl
    rw [e]
  · simp [Array.getD_eq_getD_getElem?, Array.getElem?_replicate]; split <;> rfl
  · exact ⟨rfl, rfl, rfl, Nat.le_refl _, fun _ _ => rfl⟩
  · intro i hi _ hL
    simp [Array.getD_eq_getD_getElem?, show i < ops.size by omega] at hL
theorem wp_growC0 {P:Program} {ops:Array Oper} {Q:Exit → Act → World → Prop} {a0:Act} {w0:World} (m k1:Nat) (ps:List (Nat × Value)) (l:List Rel) (hok:growOk ops = true) (ht:tailOkT ops k1 = true) (hcok:cOk ops m ps = true) (hmid:midOk m k1 ps = true) (hpu:puOk ops m ps = true) (hmk:m < k1) (hk1:k1 ≤ ops.size)
  (n:Nat) (hn:a0.tmps.size = n) (hsz:growSize ops n = true)
  (hstep:AllFrom (AskedC P ops a0 w0 ps l) 0 (ops.toList.take m)) (hmidl:AllFrom (AskedC P ops a0 w0 ps l) (m + 1) ((ops.toList.drop (m + 1)).take (k1 - (m + 1))))
  (hpl:ps.all (fun p=>decide (p.1 < k1)) = true)
  (hend:∀ (ρ:Operand → Value) (y:Nat → Value) (w:World) (o:Oper),ops[m]? = some o → (∀ t j,writer ops t = some j → ρ (.tmp t) = y j) → (∀ x,(match x with | .tmp t=>writer ops t = none | _=>True) → ρ x = a0.eval x) → (∀ i v,puOf ps i = some v → y i = v) →
   Below w0.heap.size w0 w → (∀ i,i < m → match puOf ps i with | some v=>y i = v | none=>rl l i (y i) w) →
   Region.wanted o (says ρ ops) = true ∧ GivesR P o ρ w fun v w'=>wpList P ops Q (ops.toList.drop k1) { a0 with tmps:=lay (fun i=>decide (i < k1)) (fun i=>if i = m then v else y i) ops.toList 0 a0.tmps } w') :
  wpAny P .any ops Q ops.size (Array.replicate ops.size false) a0 { w0 with drawn:=w0.drawn + 1 }:=by
 have hwr:∀ (y:Nat → Value) t j,writer ops t = some j → ({ a0 with tmps:=lay (fun _=>true) y ops.toList 0 a0.tmps }:Act).eval (.tmp t) = y j:=by
  intro y t j hw
  unfold writer at hw
  have h1:=List.find?_some hw
  have h2:=List.mem_range.1 (List.mem_of_find?_eq_some hw)
  cases ho:ops[j]? with
  | none=>simp [ho] at h1
  | some p=>
   have hd' : p.dst = some t:=by simpa [ho] using h1
   have hlt:t < a0.tmps.size:=by
    have:=List.all_eq_true.1 hsz p (Array.mem_toList_iff.2 (Array.mem_of_getElem? ho))
    rw [hn]
    simpa [hd'] using this
   have hu:∀ k' o',ops.toList[k']? = some o' → o'.dst = some t → k' = j:=by
    intro k' o' hk' hdk
    rcases ((growOk_at hok (i:=k') (o:=o') (by simpa using hk')).2.2 j p t ho hd').1 with h | h
    ·exact h
    ·exact absurd hdk h
   have:=lay_some (fun _=>true) y t ops.toList 0 a0.tmps j p (by simpa using ho) hd' rfl hu hlt
   simp [Act.eval,this]
 have hno:∀ (y:Nat → Value) x,(match x with | .tmp t=>writer ops t = none | _=>True) → ({ a0 with tmps:=lay (fun _=>true) y ops.toList 0 a0.tmps }:Act).eval x = a0.eval x:=by
  intro y x hx
  cases x with
  | tmp t=>
   have:(lay (fun _=>true) y ops.toList 0 a0.tmps)[t]? = a0.tmps[t]?:=by
    refine lay_none _ y t _ 0 _ fun k o' hk hd' => ?_
    exfalso
    simp only [writer] at hx
    have hk' : ops[k]? = some o':=by simpa using hk
    have hklt:k < ops.size:=(Array.getElem?_eq_some_iff.1 hk').1
    have:=List.find?_eq_none.1 hx k (List.mem_range.2 hklt)
    simp [hk',hd'] at this
   simp [Act.eval,this]
  | _=>rfl
 have hsays:∀ (y:Nat → Value) (o:Oper),Region.wanted o (yielded ops (lay (fun _=>true) y ops.toList 0 a0.tmps)) = Region.wanted o (says ({ a0 with tmps:=lay (fun _=>true) y ops.toList 0 a0.tmps }:Act).eval ops):=by
  intro y o
  congr 1
  funext g
  unfold yielded says
  cases (ops[g]?).bind (·.dst) with
  | none=>rfl
  | some d=>
   simp only [Option.bind_some,Act.eval,Array.getD_eq_getD_getElem?]
   generalize (lay (fun _=>true) y ops.toList 0 a0.tmps)[d]? = q
   cases q with
   | none=>rfl
   | some v=>cases v <;> rfl
 have hask:∀ i o,i < k1 → i ≠ m → ops[i]? = some o → AskedC P ops a0 w0 ps l i o:=by
  intro i o hi hne ho
  rcases Nat.lt_or_ge i m with h | h
  ·have hi' : (ops.toList.take m)[i]? = some o:=by rw [List.getElem?_take,if_pos h]; simpa using ho
   have:=AllFrom.at hstep i o hi'
   rwa [Nat.zero_add] at this
  ·have hi' : ((ops.toList.drop (m + 1)).take (k1 - (m + 1)))[i - (m + 1)]? = some o:=by
    rw [List.getElem?_take,if_pos (by omega),List.getElem?_drop,show m + 1 + (i - (m + 1)) = i by omega]
    simpa using ho
   have:=AllFrom.at hmidl _ o hi'
   rwa [show m + 1 + (i - (m + 1)) = i by omega] at this
 refine wp_region_growC0 m k1 ps hok ht hcok hmid hpu hmk hk1 (rl l) (fun i v w w' hb h=>(l.getD i anyR).st v w w' hb h) (fun i o him hp hi y w hV hb hd => ?_) (fun i v o hp hi y w hV => ?_) (fun y w o hi hV hb hR => ?_)
 ·have:=hask i o (by omega) (by omega) hi
  unfold AskedC at this
  rw [hp] at this
  have h2:=this _ y w (hwr y) (hno y) hb hd
  rw [hsays]
  exact h2
 ·have hik:i < k1:=by
   have h1:(i,v) ∈ ps:=by
    clear hpl hstep hmidl hcok hmid hpu hask hend hV
    unfold puOf at hp
    induction ps with
    | nil=>simp at hp
    | cons q r ih=>
     obtain ⟨a,b⟩:=q
     by_cases e:i = a
     ·subst e; simp at hp; simp [hp]
     ·have:(i == a) = false:=beq_eq_false_iff_ne.2 e
      simp [List.lookup,this] at hp
      exact List.mem_cons_of_mem _ (ih hp)
   simpa using List.all_eq_true.1 hpl _ h1
  have:=hask i o hik (pu_at hpu hi hp).1 hi
  unfold AskedC at this
  rw [hp] at this
  obtain ⟨h1,h2⟩:=this _ y w (hwr y) (hno y) hV
  exact ⟨by rw [hsays]; exact h1,h2⟩
 ·obtain ⟨h1,h2⟩:=hend _ y w o hi (hwr y) (hno y) hV hb hR
  exact ⟨by rw [hsays]; exact h1,h2⟩
def freedL:List Oper → Nat → Value → List Oper
 | [],_,_=>[]
 | o :: r,0,v=>freeO v o :: r
 | o :: r,k + 1,v=>o :: freedL r k v
theorem freed_list (v:Value):∀ (l:List Oper) (p:Nat),l.modify p (freeO v) = freedL l p v
 | [],p=>by cases p <;> rfl
 | o :: r,0=>rfl
 | o :: r,k + 1=>by
  rw [List.modify_succ_cons,freed_list v r k]; rfl
theorem freed_arr (l:List Oper) (p:Nat) (v:Value):freed ⟨l⟩ p v = ⟨freedL l p v⟩:=by
 unfold freed
 rw [← freed_list]
 simp
theorem wp_free {P:Program} {l:List Oper} {Q:Exit → Act → World → Prop} {id:Nat} {a0:Act} {w0:World} (p d:Nat) (v0:Value) (hm:P.follows .mixedOrders = true) (hf:freeOk ⟨l⟩ p d = true) (hv:a0.eval (.tmp d) = v0)
  (h:∀ ops:Array Oper,ops = (freedL l p v0).toArray → wpAny P .any ops Q ops.size (Array.replicate ops.size false) a0 { w0 with drawn:=w0.drawn + 1 }) :
  (Code.region id ⟨l⟩ true).wp P Q a0 w0:=by
 have h:=h _ rfl
 rw [show (freedL l p v0).toArray = freed ⟨l⟩ p v0 from (freed_arr l p v0).symm,freed_size] at h
 exact wp_region_any hm (free_any hf _ _ _ _ (fun _=>hv) h)
end Pw
namespace Go.Proofs.Ytkjobhcnlppcnaa
open Go.RowKit Go.Maps Pw
theorem clone_cached (l:List Cc) (a:Option Addr) (c:Nat) (w:World) (hle:l.length ≤ c) (hnil:a = none → c = 0) (hrd:RdV w a (l.flatMap ccL)) (hb:l.length * 24 ≤ 140737488355328) :
  Calls Try.prog 58 #[.slice a l.length c] w fun e w' => ∃ v,e = .returned v ∧ Own w' w.heap.size 85 3 v l.length (l.flatMap ccL) ∧ Below w.heap.size w w':=by
 cases a with
 | none=>
  have h0:=hnil rfl
  have hl:l = []:=List.eq_nil_of_length_eq_zero (by omega)
  subst hl
  subst h0
  have hq:=fun W=>Lib.run_eql_slice_nil (P:=Try.prog) W 37 _ none 0 0 0 0 Try.underlying37
  go_enter Try.func58,Try.ntmps58
  go_wp2
  go_ret
  exact ⟨_,rfl,by simpa using Own.nil _ _ _ _,Below.refl _ _⟩
 | some ad=>
  have hq:=fun W=>Lib.run_eql_slice_nil (P:=Try.prog) W 37 _ (some ad) l.length c 0 0 Try.underlying37
  go_enter Try.func58,Try.ntmps58
  go_wp2_with (at_builtin; go_must (refine wpList_app rfl _ _ 37 rfl w.heap.size 85 (.agg #[.int .i64 0,.int .i64 0,.int .i64 0]) 3 24 Try.underlying37 cached_info rfl (by decide) _ 0 [] rfl ?own (some ad) l.length c (l.flatMap ccL) rfl (fun h=>(by cases h)) hle (ccs_len l) ?rd (ccs_one l) (by unfold maxLen; omega) (by simpa using hb) ?bb ?k))
  case own=>exact ⟨rfl,.inr ⟨w.heap.size,0,0,#[],rfl,Nat.le_refl _,Blk.new _ _ _,Nat.le_refl _,Nat.zero_le _,by simp,fun j u h=>by simp at h⟩⟩
  case rd=>exact hrd.below ((Below.refl _ _).alloc (Nat.le_refl _) _)
  case bb=>exact le_alloc _ _
  intro v w1 hown hgr
  go_wp2
  go_ret
  exact ⟨v,rfl,by simpa using hown,((Below.refl _ _).alloc (Nat.le_refl _) _).grown hgr (le_alloc _ _) (fun k hk=>by cases hk; exact Nat.le_refl _)⟩
theorem MaZ.fsz {H:MH} (h:MaZ H.ma):FsSz H.fi:=by
 have h1:(H.fi.map PF.fi).length ≤ 1000:=h.st.1
 rw [List.length_map] at h1
 refine ⟨by omega,fun p hp => ?_⟩
 have:=h.st.2 p.fi (List.mem_map.2 ⟨p,hp,rfl⟩)
 have e:p.fi.b.length = p.l.length:=rfl
 omega
theorem MaZ.spz {H:MH} (h:MaZ H.ma) {p:PS} (hp:p ∈ H.sp):p.ar.length ≤ 1000 ∧ TbSz p.tb:=by
 obtain ⟨h1,h2⟩:=h.sp.2 p.sp (List.mem_map.2 ⟨p,hp,rfl⟩)
 exact ⟨h1,fun k hk=>by have:=h2 k hk; have e:p.sp.tb[k].length = p.tb[k].length:=rfl; omega⟩
def spGood (w:World) (B:Nat) (p:PS) (s:Sp):Prop:=p.sp = s ∧ Own w B 69 7 (.slice p.aa p.ar.length p.ac) p.ar.length (p.ar.flatMap arL) ∧ TbO w B (tsC p.ts) p.tb
theorem spGood.below {w w' : World} {B:Nat} {p:PS} {s:Sp} (h:spGood w B p s) (hb:Below w.heap.size w w'):spGood w' B p s:=⟨h.1,h.2.1.below hb,h.2.2.below hb⟩
def spcR (B:Nat) (s:Sp):Rel:=⟨fun v w => ∃ p,v = .agg (psC p) ∧ spGood w B p s,fun _ _ _ hb ⟨p,h1,h2⟩=>⟨p,h1,h2.below hb⟩⟩
def spcS (B:Nat) (s:Sp):Rel:=⟨fun v w => ∃ g p,v = .slice (some ⟨g,0,none⟩) 1 1 ∧ RdV w (some ⟨g,0,none⟩) (psL p) ∧ spGood w B p s,fun _ _ _ hb ⟨g,p,h1,h2,h3⟩=>⟨g,p,h1,h2.below hb,h3.below hb⟩⟩
theorem psC_oneS {w:World} {B:Nat} {p:PS} {s:Sp} (h:spGood w B p s):∀ u ∈ psL p,u.oneCell' = true:=by
 have h1:=h.2.2.rd.one
 rw [← Array.all_toList,List.all_eq_true] at h1
 intro u hu
 simp only [psL,psC,List.mem_cons,List.not_mem_nil,or_false] at hu
 simp only [tsC,List.mem_cons,List.not_mem_nil,or_false] at h1
 rcases hu with rfl | rfl | hu
 ·rfl
 ·rfl
 ·exact h1 u hu
theorem caO_size:(Try.prog.info? 37).map (·.size) = some 1:=by kernel_rfl
theorem grow_sp {w w' : World} {B n c:Nat} {a:Option Addr} {xs:List Value} (ho:Own w B 65 10 (.slice a n c) n xs) (hg:w.grownBy w' (Value.slice a n c).ownBlock) :
  w.grownBy w' none ∨ ∃ g cs,Blk w g cs 65 ∧ B ≤ g ∧ w.grownBy w' (some g):=by
 cases hr:(Value.slice a n c).ownBlock with
 | none=>rw [hr] at hg; exact .inl hg
 | some g=>
  rw [hr] at hg
  obtain ⟨cs,hb⟩:=own_blk ho g hr
  exact .inr ⟨g,cs,hb,ho.ge g hr,hg⟩
theorem grow_own {w w' : World} {B n c B' sz m:Nat} {a:Option Addr} {xs ys:List Value} {T:TypeId} {v:Value} (ho:Own w B 65 10 (.slice a n c) n xs) (hg:w.grownBy w' (Value.slice a n c).ownBlock) (h:Own w B' T sz v m ys) (hT:T ≠ 65):Own w' B' T sz v m ys:=by
 rcases grow_sp ho hg with h1 | ⟨g,cs,hb,_,h1⟩
 ·exact own_stay h h1
 ·exact own_keep h hb (fun e=>hT e.symm) h1
theorem grow_blk {w w' : World} {B n c b:Nat} {a:Option Addr} {xs:List Value} {T:TypeId} {cs:Array Value} (ho:Own w B 65 10 (.slice a n c) n xs) (hg:w.grownBy w' (Value.slice a n c).ownBlock) (h:Blk w b cs T) (hT:T ≠ 65):Blk w' b cs T:=by
 rcases grow_sp ho hg with h1 | ⟨g,cs',hb,_,h1⟩
 ·exact h.grown h1 (fun e=>by cases e)
 ·exact h.grown h1 (fun e=>blk_ne h hb hT (Option.some.inj e).symm)
theorem grow_fs {w w' : World} {B n c B' : Nat} {a:Option Addr} {xs:List Value} {v:Value} {ps:List PF} (ho:Own w B 65 10 (.slice a n c) n xs) (hg:w.grownBy w' (Value.slice a n c).ownBlock) (h:FsO w B' v ps):FsO w' B' v ps:=
 ⟨grow_own ho hg h.own (by decide),fun i p hp=>grow_own ho hg (h.each i p hp) (by decide),h.apart⟩
theorem grow_tb {w w' : World} {B n c B' : Nat} {a:Option Addr} {xs:List Value} {cs:Array Value} {t:Tb} (ho:Own w B 65 10 (.slice a n c) n xs) (hg:w.grownBy w' (Value.slice a n c).ownBlock) (h:TbO w B' cs t):TbO w' B' cs t:=
 ⟨h.sz,fun k hk=>by obtain ⟨v,h1,h2⟩:=h.own k hk; exact ⟨v,h1,grow_own ho hg h2 (by decide)⟩,h.apart⟩
theorem mach_size:(Try.prog.info? 40).map (·.size) = some 11:=by kernel_rfl
theorem slsp_size:(Try.prog.info? 38).map (·.size) = some 1:=by kernel_rfl
def newMa (f s b:Int):Ma:=if (0 ≤ f ∧ f ≤ 40) ∧ (0 ≤ s ∧ s ≤ 60) ∧ (0 ≤ b ∧ b ≤ 80) then ⟨newM f,newS s,newD s,newD b,⟨[],b⟩,[],[⟨true,[],zTb⟩]⟩ else zMa
def newMaE (f s b:Int):Int:=if (0 ≤ f ∧ f ≤ 40) ∧ (0 ≤ s ∧ s ≤ 60) ∧ (0 ≤ b ∧ b ≤ 80) then 0 else 4
def noH:MH:=⟨none,0,noM,none,0,[],none,0,none,0,⟨[],[]⟩,none,0,none,0,⟨[],[]⟩,none,0,[],0,none,0,[],none,0,[]⟩
theorem noH_own (w:World) (B:Nat):MaO w B noH:=
 ⟨Own.nil _ _ _ _,Own.nil _ _ _ _,DOwn.nil _ _,DOwn.nil _ _,⟨Own.nil _ _ _ _,fun i p hp=>by simp [noH] at hp,fun i j p q _ hp=>by simp [noH] at hp⟩,Own.nil _ _ _ _,Own.nil _ _ _ _,fun p hp=>by simp [noH] at hp,by decide⟩
def nTs:Vector Value 8:=⟨#[.slice none 0 0,.slice none 0 0,.slice none 0 0,.slice none 0 0,.slice none 0 0,.slice none 0 0,.slice none 0 0,.slice none 0 0],rfl⟩
def newP:PS:=⟨true,none,0,[],nTs,zTb⟩
theorem newP_own (w:World) (B:Nat) (hB:B ≤ w.heap.size):Own (w.alloc (.cells (psC newP) 65)) B 65 10 (.slice (some ⟨w.heap.size,0,none⟩) 1 1) 1 ([newP].flatMap psL):=
 ⟨rfl,.inr ⟨w.heap.size,0,1,psC newP,rfl,hB,Blk.new _ _ _,Nat.le_refl _,by decide,by decide,fun j u h=>by
  rw [Nat.zero_add,← Array.getElem?_toList]
  rw [show [newP].flatMap psL = (psC newP).toList from by rw [List.flatMap_cons,List.flatMap_nil,List.append_nil]; rfl] at h
  exact h⟩⟩
theorem machine_new (f s b:Int) (w:World) (hb64 : -9223372036854775808 ≤ b ∧ b ≤ 9223372036854775807) :
  Calls Try.prog 18 #[.agg #[.int .i64 f,.int .i64 s,.int .i64 b]] w fun r w' => ∃ H' : MH,r = .returned (.tuple #[.agg (mhC H'),.int .i64 (newMaE f s b)]) ∧ MaO w' w.heap.size H' ∧ H'.ma = newMa f s b ∧ Below w.heap.size w w':=by
 go_enter Try.func18,Try.ntmps18
 have bx0:=Blk.new w #[.int .i64 f,.int .i64 s,.int .i64 b] 23
 have h1:Below w.heap.size w (w.alloc (.cells #[.int .i64 f,.int .i64 s,.int .i64 b] 23)):=(Below.refl _ _).alloc (Nat.le_refl _) _
 have h2:Below (w.alloc (.cells #[.int .i64 f,.int .i64 s,.int .i64 b] 23)).heap.size (w.alloc (.cells #[.int .i64 f,.int .i64 s,.int .i64 b] 23)) ((w.alloc (.cells #[.int .i64 f,.int .i64 s,.int .i64 b] 23)).alloc (.cells (mhC noH) 40)):=(Below.refl _ _).alloc (Nat.le_refl _) _
 have hb0:=below_next h1 h2
 have bx1:=bx0.ext h2
 have rx1:=Blk.new (w.alloc (.cells #[.int .i64 f,.int .i64 s,.int .i64 b] 23)) (mhC noH) 40
 rw [show (w.alloc (.cells #[.int .i64 f,.int .i64 s,.int .i64 b] 23)).heap.size = w.heap.size + 1 from Array.size_push _] at rx1
 clear h1 h2
 go_wp2_with fail
 refine (mnew_any f _).mono ?_
 rintro r w1 ⟨v1,rfl,ho1,hb1⟩
 have bx1:=bx1.ext hb1
 have rx1:=rx1.ext hb1
 have hbr1:=below_next hb0 hb1
 have hfr:=Blk.new w1 #[.slice none 0 0,.int .i64 0] 27
 have hba:Below w1.heap.size w1 (w1.alloc (.cells #[.slice none 0 0,.int .i64 0] 27)):=(Below.refl _ _).alloc (Nat.le_refl _) _
 have bx2:=bx1.ext hba
 have rx2:=rx1.ext hba
 have hbr2:=below_next hbr1 hba
 have p1:=(ho1.below hba)
 obtain ⟨a1,c1,rfl,_⟩:=p1.rd
 have hl1:=rx1.lt
 have hl0:=hb0.size
 clear hb0 hb1 hba ho1 hbr1 bx1
 go_wp2_with (refine wpList_stw rfl _ _ _ rfl w1.heap.size #[.slice a1 (newM f).fs.length c1,.int .i64 0] rfl rfl _ _ hfr rfl mem_size (mem_one _ _ _ _) ?_)
 intro w2 mb2 hg2
 have bx3:=bx2.grown hg2 (fun e=>by have:=Option.some.inj e; omega)
 have rx3:=rx2.grown hg2 (fun e=>by have:=Option.some.inj e; omega)
 have hbr3:=hbr2.grown hg2 hbr2.size (fun k hk=>by cases hk; omega)
 have q1:=own_keep p1 hfr (by decide) hg2
 have hcs:w2.cell? ⟨w.heap.size,1,none⟩ = some (.int .i64 s):=by rw [bx3.cell]; rfl
 clear bx2 rx2 hbr2 hfr p1 hg2
 by_cases hf:0 ≤ f ∧ f ≤ 40
 ·have e1:newME f = 0:=if_pos hf
  rw [e1]
  go_wp2_with fail
  refine (slnew_any s _).mono ?_
  rintro r w3 ⟨v3,rfl,ho3,hb3⟩
  have bx4:=bx3.ext hb3
  have rx4:=rx3.ext hb3
  have mb4:=mb2.ext hb3
  have p1:=q1.below hb3
  have hl3:=hb3.size
  have hl2:=mb2.lt
  have hbr4:=below_next hbr3 hb3
  obtain ⟨a3,c3,rfl,_⟩:=ho3.rd
  clear bx3 rx3 mb2 q1 hb3 hbr3 hcs
  by_cases hs:0 ≤ s ∧ s ≤ 60
  ·have e2:slnewE s = 0:=if_pos hs
   rw [e2]
   have hcs:w3.cell? ⟨w.heap.size,1,none⟩ = some (.int .i64 s):=by rw [bx4.cell]; rfl
   go_wp2_with fail
   refine (dnew_any s _).mono ?_
   rintro r w4 ⟨vb,vq,rfl,ho4,hb4⟩
   have hba:Below w4.heap.size w4 (w4.alloc (.cells #[.slice none 0 0,.slice none 0 0] 33)):=(Below.refl _ _).alloc (Nat.le_refl _) _
   have hfr:=Blk.new w4 #[.slice none 0 0,.slice none 0 0] 33
   have hl4:=hb4.size
   have bx5:=(bx4.ext hb4).ext hba
   have rx5:=(rx4.ext hb4).ext hba
   have mb5:=(mb4.ext hb4).ext hba
   have q1:=(p1.below hb4).below hba
   have q3:=(ho3.below hb4).below hba
   have q4:DOwn _ _ _ _ _:=⟨ho4.b.below hba,ho4.q.below hba⟩
   have hbr5:=below_next (below_next hbr4 hb4) hba
   obtain ⟨ab,cb,rfl,_⟩:=q4.b.rd
   obtain ⟨aq,cq,rfl,_⟩:=q4.q.rd
   have hw4:=(mb4.ext hb4).lt
   clear bx4 rx4 mb4 p1 ho3 ho4 hb4 hba hbr4 hcs
   go_wp2_with (refine wpList_stw rfl _ _ _ rfl w4.heap.size #[.slice ab (newD s).blocks.length cb,.slice aq (newD s).queue.length cq] rfl rfl _ _ hfr rfl disk_size (sl_one _ _ _ _ _ _) ?_)
   intro w5 sb5 hg5
   have bx6:=bx5.grown hg5 (fun e=>by have:=Option.some.inj e; omega)
   have rx6:=rx5.grown hg5 (fun e=>by have:=Option.some.inj e; omega)
   have mb6:=mb5.grown hg5 (fun e=>by have:=Option.some.inj e; omega)
   have hbr6:=hbr5.grown hg5 hbr5.size (fun k hk=>by cases hk; omega)
   have p1:=own_keep q1 hfr (by decide) hg5
   have p3:=own_keep q3 hfr (by decide) hg5
   have p4:=q4.keep hfr (by decide) (by decide) hg5
   have hcb:w5.cell? ⟨w.heap.size,2,none⟩ = some (.int .i64 b):=by rw [bx6.cell]; rfl
   clear bx5 rx5 mb5 q1 q3 q4 hg5 hfr hbr5
   go_wp2_with fail
   refine (dnew_any b _).mono ?_
   rintro r w6 ⟨vb,vq,rfl,ho6,hb6⟩
   have hba:Below w6.heap.size w6 (w6.alloc (.cells #[.slice none 0 0,.slice none 0 0] 33)):=(Below.refl _ _).alloc (Nat.le_refl _) _
   have hfr:=Blk.new w6 #[.slice none 0 0,.slice none 0 0] 33
   have hl6:=hb6.size
   have hw5:=sb5.lt
   have hw6:=(sb5.ext hb6).lt
   have bx7:=(bx6.ext hb6).ext hba
   have rx7:=(rx6.ext hb6).ext hba
   have mb7:=(mb6.ext hb6).ext hba
   have sb7:=(sb5.ext hb6).ext hba
   have q1:=(p1.below hb6).below hba
   have q3:=(p3.below hb6).below hba
   have q4:DOwn _ _ _ _ _:=⟨(p4.b.below hb6).below hba,(p4.q.below hb6).below hba⟩
   have q6:DOwn _ _ _ _ _:=⟨ho6.b.below hba,ho6.q.below hba⟩
   have hbr7:=below_next (below_next hbr6 hb6) hba
   obtain ⟨db,dcb,rfl,_⟩:=q6.b.rd
   obtain ⟨dq,dcq,rfl,_⟩:=q6.q.rd
   clear bx6 rx6 mb6 sb5 p1 p3 p4 ho6 hb6 hba hbr6 hcb
   go_wp2_with (refine wpList_stw rfl _ _ _ rfl w6.heap.size #[.slice db (newD b).blocks.length dcb,.slice dq (newD b).queue.length dcq] rfl rfl _ _ hfr rfl disk_size (sl_one _ _ _ _ _ _) ?_)
   intro w7 db7 hg7
   have bx8:=bx7.grown hg7 (fun e=>by have:=Option.some.inj e; omega)
   have rx8:=rx7.grown hg7 (fun e=>by have:=Option.some.inj e; omega)
   have mb8:=mb7.grown hg7 (fun e=>by have:=Option.some.inj e; omega)
   have sb8:=sb7.grown hg7 (fun e=>by have:=Option.some.inj e; omega)
   have hbr8:=hbr7.grown hg7 hbr7.size (fun k hk=>by cases hk; omega)
   have p1:=own_keep q1 hfr (by decide) hg7
   have p3:=own_keep q3 hfr (by decide) hg7
   have p4:=q4.keep hfr (by decide) (by decide) hg7
   have p6:=q6.keep hfr (by decide) (by decide) hg7
   have hcb:w7.cell? ⟨w.heap.size,2,none⟩ = some (.int .i64 b):=by rw [bx8.cell]; rfl
   clear bx7 rx7 mb7 sb7 q1 q3 q4 q6 hg7 hfr hbr7
   by_cases hk:0 ≤ b ∧ b ≤ 80
   ·have e3:newDE b = 0:=if_pos hk
    rw [e3]
    go_wp2_with fail
    refine (snew_any b _).mono ?_
    rintro r w8 ⟨rfl,hb8⟩
    have e4:newC b = b:=if_neg (by omega)
    have e5:newE b = 0:=if_neg (by omega)
    rw [e4,e5]
    have hba:Below w8.heap.size w8 (w8.alloc (.cells #[.slice none 0 0,.int .i64 0] 36)):=(Below.refl _ _).alloc (Nat.le_refl _) _
    have hfr:=Blk.new w8 #[.slice none 0 0,.int .i64 0] 36
    have hl8:=hb8.size
    have hw7:=db7.lt
    have hw8:=(db7.ext hb8).lt
    have rx9:=(rx8.ext hb8).ext hba
    have mb9:=(mb8.ext hb8).ext hba
    have sb9:=(sb8.ext hb8).ext hba
    have db9:=(db7.ext hb8).ext hba
    have q1:=(p1.below hb8).below hba
    have q3:=(p3.below hb8).below hba
    have q4:DOwn _ _ _ _ _:=⟨(p4.b.below hb8).below hba,(p4.q.below hb8).below hba⟩
    have q6:DOwn _ _ _ _ _:=⟨(p6.b.below hb8).below hba,(p6.q.below hb8).below hba⟩
    have hbr9:=below_next (below_next hbr8 hb8) hba
    clear bx8 rx8 mb8 sb8 db7 p1 p3 p4 p6 hb8 hba hbr8 hcb
    go_wp2_with (refine wpList_stw rfl _ _ _ rfl w8.heap.size #[.slice none 0 0,.int .i64 b] rfl rfl _ _ hfr rfl store_size (mem_one _ _ _ _) ?_)
    intro w9 tb9 hg9
    have rx10:=rx9.grown hg9 (fun e=>by have:=Option.some.inj e; omega)
    have mb10:=mb9.grown hg9 (fun e=>by have:=Option.some.inj e; omega)
    have sb10:=sb9.grown hg9 (fun e=>by have:=Option.some.inj e; omega)
    have db10:=db9.grown hg9 (fun e=>by have:=Option.some.inj e; omega)
    have hbr10:=hbr9.grown hg9 hbr9.size (fun k hk=>by cases hk; omega)
    have p1:=own_keep q1 hfr (by decide) hg9
    have p3:=own_keep q3 hfr (by decide) hg9
    have p4:=q4.keep hfr (by decide) (by decide) hg9
    have p6:=q6.keep hfr (by decide) (by decide) hg9
    clear rx9 mb9 sb9 db9 q1 q3 q4 q6 hg9 hfr hbr9
    obtain ⟨M,hM⟩:∃ M:MH,Hid (M = ⟨a1,c1,⟨(newM f).fs,0⟩,a3,c3,newS s,ab,cb,aq,cq,newD s,db,dcb,dq,dcq,newD b,none,0,[],b,none,0,[],some ⟨w9.heap.size,0,none⟩,1,[newP]⟩):=⟨_,Lib.hid rfl⟩
    have hbs:Below w9.heap.size w9 (w9.alloc (.cells (psC newP) 65)):=(Below.refl _ _).alloc (Nat.le_refl _) _
    have rx11:=rx10.ext hbs
    have q1:=p1.below hbs
    have q3:=p3.below hbs
    have q4:DOwn _ _ _ _ _:=⟨p4.b.below hbs,p4.q.below hbs⟩
    have q6:DOwn _ _ _ _ _:=⟨p6.b.below hbs,p6.q.below hbs⟩
    have q7:=newP_own w9 w.heap.size hbr10.size
    have hbr11:=below_next hbr10 hbs
    have hw9:=tb9.lt
    have hw0:=rx10.lt
    clear p1 p3 p4 p6 hbs
    go_wp2_with (first | (refine wpList_ldg _ _ rfl w1.heap.size 0 rfl rfl _ mb10.rd _ Try.underlying27 rfl mem_size ?_) | (refine wpList_ldg _ _ rfl w4.heap.size 0 rfl rfl _ sb10.rd _ Try.underlying33 rfl disk_size ?_) | (refine wpList_ldg _ _ rfl w6.heap.size 0 rfl rfl _ db10.rd _ Try.underlying33 rfl disk_size ?_) | (refine wpList_ldg _ _ rfl w8.heap.size 0 rfl rfl _ tb9.rd _ Try.underlying36 rfl store_size ?_) | (refine wpList_stw rfl _ _ _ rfl (w.heap.size + 1) #[.slice a1 (newM f).fs.length c1,.int .i64 0,.slice a3 (newS s).length c3,.slice ab (newD s).blocks.length cb,.slice aq (newD s).queue.length cq,.slice db (newD b).blocks.length dcb,.slice dq (newD b).queue.length dcq,.slice none 0 0,.int .i64 b,.slice none 0 0,.slice (some ⟨w9.heap.size,0,none⟩) 1 1] rfl rfl _ _ rx11 rfl mach_size (by simp [Value.oneCell']) ?_))
    intro we hre hge
    have hre' : Blk we (w.heap.size + 1) (mhC M) 40:=by rw [hM.out]; exact hre
    have hbre:=hbr11.grown hge hbr11.size (fun k hk=>by cases hk; omega)
    have hown:MaO we w.heap.size M:=by
     rw [hM.out]
     refine ⟨(own_keep q1 rx11 (by decide) hge).mono hl0,(own_keep q3 rx11 (by decide) hge).mono (by omega),?_,?_,⟨Own.nil _ _ _ _,fun i p hp=>by simp at hp,fun i j p q _ hp=>by simp at hp⟩,Own.nil _ _ _ _,own_keep q7 rx11 (by decide) hge,fun p hp => ?_,hb64⟩
     ·exact (q4.keep rx11 (by decide) (by decide) hge).mono (by omega)
     ·exact (q6.keep rx11 (by decide) (by decide) hge).mono (by omega)
     ·rw [List.mem_singleton.1 hp]
      exact ⟨Own.nil _ _ _ _,zTb_O _ _⟩
    clear hre rx10 rx11 mb10 sb10 db10 tb9 q1 q3 q4 q6 q7 hge hbr10 hbr11
    go_wp2
    refine bodyPost_ret (v:=.tuple #[.agg (mhC M),.int .i64 0]) (results_ct Try.results18 _ _ (w.heap.size + 1) _ _ _ _ rfl rfl hre' Try.underlying40 rfl mach_size) rfl ?_
    refine ⟨M,by rw [show newMaE f s b = 0 from if_pos ⟨hf,hs,hk⟩],hown,?_,hbre⟩
    rw [show newMa f s b = _ from if_pos ⟨hf,hs,hk⟩,hM.out]
    unfold MH.ma
    rw [show newM f = ⟨List.replicate f.toNat frZ,0⟩ from if_pos hf]
    rfl
   ·have e3:newDE b = 4:=if_neg hk
    rw [e3]
    go_wp2_with (refine wpList_stw rfl _ _ _ rfl (w.heap.size + 1) (mhC noH) rfl rfl _ _ rx8 rfl mach_size (mhC_one noH) ?_)
    intro we hre hge
    have hbre:=hbr8.grown hge hbr8.size (fun k hk=>by cases hk; omega)
    go_wp2
    refine bodyPost_ret (v:=.tuple #[.agg (mhC noH),.int .i64 4]) (results_ct Try.results18 _ _ (w.heap.size + 1) _ _ _ _ rfl rfl hre Try.underlying40 rfl mach_size) rfl ?_
    exact ⟨noH,by rw [show newMaE f s b = 4 from if_neg (fun h=>hk h.2.2)],noH_own _ _,by rw [show newMa f s b = zMa from if_neg (fun h=>hk h.2.2)]; rfl,hbre⟩
  ·have e2:slnewE s = 4:=if_neg hs
   rw [e2]
   go_wp2_with (refine wpList_stw rfl _ _ _ rfl (w.heap.size + 1) (mhC noH) rfl rfl _ _ rx4 rfl mach_size (mhC_one noH) ?_)
   intro we hre hge
   have hbre:=hbr4.grown hge hbr4.size (fun k hk=>by cases hk; omega)
   go_wp2
   refine bodyPost_ret (v:=.tuple #[.agg (mhC noH),.int .i64 4]) (results_ct Try.results18 _ _ (w.heap.size + 1) _ _ _ _ rfl rfl hre Try.underlying40 rfl mach_size) rfl ?_
   exact ⟨noH,by rw [show newMaE f s b = 4 from if_neg (fun h=>hs h.2.1)],noH_own _ _,by rw [show newMa f s b = zMa from if_neg (fun h=>hs h.2.1)]; rfl,hbre⟩
 ·have e1:newME f = 4:=if_neg hf
  rw [e1]
  go_wp2_with (refine wpList_stw rfl _ _ _ rfl (w.heap.size + 1) (mhC noH) rfl rfl _ _ rx3 rfl mach_size (mhC_one noH) ?_)
  intro we hre hge
  have hbre:=hbr3.grown hge hbr3.size (fun k hk=>by cases hk; omega)
  go_wp2
  refine bodyPost_ret (v:=.tuple #[.agg (mhC noH),.int .i64 4]) (results_ct Try.results18 _ _ (w.heap.size + 1) _ _ _ _ rfl rfl hre Try.underlying40 rfl mach_size) rfl ?_
  exact ⟨noH,by rw [show newMaE f s b = 4 from if_neg (fun h=>hf h.1)],noH_own _ _,by rw [show newMa f s b = zMa from if_neg (fun h=>hf h.1)]; rfl,hbre⟩
theorem rd_first {w:World} {b o:Nat} {xs ys:List Value} (h:RdV w (some ⟨b,o,none⟩) (xs ++ ys)):RdV w (some ⟨b,o,none⟩) xs:=fun i u hi=>h i u (by
 rw [List.getElem?_append_left (List.getElem?_eq_some_iff.1 hi).1]; exact hi)
theorem frL_page (x:Fr):∃ ys,frL x = pgL x.p ++ ys:=⟨_,rfl⟩
theorem find_snoc {l:List Cc} {q:Nat} {c:Cc} {f i:Int} (hc:l[q]? = some c) (hno:∀ d ∈ l.take q,¬ (d.f = f ∧ d.i = i)) (hy:c.f = f ∧ c.i = i):l.find? (fun c=>decide (c.f = f) && decide (c.i = i)) = some c:=by
 rw [← List.take_append_drop q l,List.find?_append,List.find?_eq_none.2 (fun d hd=>by
  have:=hno d hd
  simp only [Bool.and_eq_true,decide_eq_true_eq]
  exact this)]
 rw [List.drop_eq_getElem_cons (List.getElem?_eq_some_iff.1 hc).1,(List.getElem?_eq_some_iff.1 hc).2,List.find?_cons,hy.1,hy.2]
 simp
theorem find_noneC {l:List Cc} {f i:Int} (hno:∀ d ∈ l,¬ (d.f = f ∧ d.i = i)):l.find? (fun c=>decide (c.f = f) && decide (c.i = i)) = none:=
 List.find?_eq_none.2 (fun d hd=>by
  have:=hno d hd
  simp only [Bool.and_eq_true,decide_eq_true_eq]
  exact this)
theorem rcontent_any (H:MH) (f i:Int) (w:World) (h:MaR w H) (hz:H.ca.length ≤ 1000 ∧ ∀ f ∈ H.ma.st.fs,f.b.length ≤ 1000) (hck:∀ c ∈ H.ca,0 ≤ c.k ∧ c.k < H.m.fs.length) (hf:0 ≤ f ∧ f < H.fi.length) (hi:0 ≤ i ∧ i < (fileAt H.ma.st f).b.length) :
  Calls Try.prog 62 #[.agg (mhC H),.int .i64 f,.int .i64 i] w fun r w'=>r = .returned (.agg (pgC (contentP H.ma f i))) ∧ Below w.heap.size w w':=by
 have z7:H.ca.length ≤ 1000:=hz.1
 go_enter Try.func62,Try.ntmps62
 go_upto_region 1 with (fail)
 refine abs2 (fun W=>Code.wp _ _ _ _ W) fun w1 hb0 bx1 rx1 hs1 => ?_
 clear hs1
 have hcb:=bx1.cell
 unfold mhC at hcb
 go_upto_region 2 with (fail)
 clear hcb
 go_loopw [16] (fun k wr => ∃ q:Nat,q ≤ H.ca.length ∧ k = .int .i64 q ∧ Below w.heap.size w wr ∧ Blk wr w.heap.size (mhC H) 40 ∧ Blk wr (w.heap.size + 1) (pgC zPg) 50 ∧ Hid (∀ d ∈ H.ca.take q,¬ (d.f = f ∧ d.i = i))) (fun k _=>H.ca.length - (intOf k).toNat)
 case atStart=>exact ⟨0,Nat.zero_le _,rfl,hb0,bx1,rx1,Lib.hid (by simp)⟩
 case round=>
  clear hb0 bx1 rx1
  obtain ⟨q,hq,rfl,hbr,bx,rx,hno⟩:=hrel
  by_cases hql:q < H.ca.length
  ·obtain ⟨bc,oc,hca,hrd⟩:=cc_elem (h.below hbr).ca.rd q hql
   obtain ⟨c,hc⟩:∃ c,H.ca[q]? = some c:=⟨_,List.getElem?_eq_getElem hql⟩
   rw [show H.ca[q] = c from (List.getElem?_eq_some_iff.1 hc).2] at hrd
   have hqi:(q:Int) < (H.ca.length:Int):=by omega
   have hck1:=hck c (List.mem_of_getElem? hc)
   have hc':=Lib.hid hc
   clear hc
   rw [hca]
   go_wp2_with (first | (refine wpList_ldg _ _ rfl bc (oc + q * 3) rfl rfl _ hrd _ Try.underlying85 rfl cached_size ?_) | (refine wpList_stn rfl _ _ _ rfl (ccC c) rfl rfl rfl cached_size (ccC_one c) ?_))
   intro w3 hb3 cx3
   have hbr3:=below_next hbr hb3
   have bx3:=bx.ext hb3
   have rx3:=rx.ext hb3
   have hcx:=cx3.cell
   have hl3:=rx3.lt
   clear hbr bx rx hb3 hrd
   unfold ccC at hcx
   by_cases hy:c.f = f ∧ c.i = i
   ·obtain ⟨hy1,hy2⟩:=hy
    obtain ⟨k,hk⟩:=Int.eq_ofNat_of_zero_le hck1.1
    have hkl:k < H.m.fs.length:=by have:=hck1.2; omega
    obtain ⟨bf,of,haf,hfrd⟩:=elemR frL_len (by decide) (h.below hbr3).fr.rd k hkl
    have hki:(k:Int) < (H.m.fs.length:Int):=by omega
    have hcont:Hid (contentP H.ma f i = (H.m.fs[k]).p):=Lib.hid (by
     unfold contentP
     rw [show H.ma.ca.find? (fun c=>decide (c.f = f) && decide (c.i = i)) = some c from find_snoc hc'.out hno.out ⟨hy1,hy2⟩]
     show (H.m.fs.getD c.k.toNat fr0).p = _
     rw [hk,List.getD_eq_getElem?_getD,show ((k:Nat):Int).toNat = k from rfl,List.getElem?_eq_getElem hkl]; rfl)
    generalize H.m.fs[k] = X at hfrd hcont
    obtain ⟨ys,hys⟩:=frL_page X
    rw [hys] at hfrd
    have hprd:=rd_first hfrd
    have hcm:w3.cell? ⟨w.heap.size,0,none⟩ = some (.slice (some ⟨bf,of,none⟩) H.m.fs.length H.cf):=by rw [bx3.cell,← haf]; rfl
    rw [hy1,hy2,hk] at hcx
    clear hfrd hys
    go_wp2_with (first | (refine wpList_ldg _ _ rfl bf (of + k * 13) rfl rfl _ hprd _ Try.underlying50 rfl psize ?_) | (refine wpList_stw rfl _ _ _ rfl (w.heap.size + 1) (pgC X.p) rfl rfl _ _ rx3 rfl psize (pgC_one X.p) ?_))
    intro w4 rx4 hg4
    have hb4:=hbr3.grown hg4 hbr3.size (fun k hk=>by cases hk; omega)
    clear hcx hcm
    go_wp2
    refine bodyPost_ret (v:=.agg (pgC X.p)) (results_c Try.results62 _ _ (w.heap.size + 1) _ _ _ rfl rx4 Try.underlying50 rfl psize) rfl ?_
    exact ⟨by rw [hcont.out],hb4⟩
   ·have hno' : Hid (∀ d ∈ H.ca.take (q + 1),¬ (d.f = f ∧ d.i = i)):=Lib.hid fun d hd=>by
     rw [take_at hc'.out] at hd
     rcases List.mem_append.1 hd with hd | hd
     ·exact hno.out d hd
     ·rw [List.mem_singleton.1 hd]; exact hy
    by_cases hy1:c.f = f
    ·have hy2:¬ c.i = i:=fun e=>hy ⟨hy1,e⟩
     clear hy
     go_wp2
     go_roundw
     case rel=>exact ⟨q + 1,by omega,by go_num,hbr3,bx3,rx3,hno'⟩
     case measure=>simp [intOf]; omega
    ·clear hy
     go_wp2
     go_roundw
     case rel=>exact ⟨q + 1,by omega,by go_num,hbr3,bx3,rx3,hno'⟩
     case measure=>simp [intOf]; omega
  ·have hqi:¬ (q:Int) < (H.ca.length:Int):=by omega
   rw [List.take_of_length_le (by omega)] at hno
   have hcx:=bx.cell
   unfold mhC at hcx
   obtain ⟨F,rfl⟩:=Int.eq_ofNat_of_zero_le hf.1
   obtain ⟨I,rfl⟩:=Int.eq_ofNat_of_zero_le hi.1
   have hFl:F < H.fi.length:=by omega
   obtain ⟨bf,of,hai,hrd⟩:=elemR pfL_len (by decide) h.st.rd F hFl
   obtain ⟨p,hp⟩:∃ p,H.fi[F]? = some p:=⟨_,List.getElem?_eq_getElem hFl⟩
   rw [show H.fi[F] = p from (List.getElem?_eq_some_iff.1 hp).2] at hrd
   have hrd0:=Lib.hid hrd
   have hrd:=hrd.below hbr
   have hgood:=(h.below hbr).st.good p (List.mem_of_getElem? hp)
   have hfa:fileAt H.ma.st (F:Int) = p.fi:=by
    unfold fileAt
    rw [if_pos (by omega)]
    show (H.fi.map PF.fi).getD F ⟨0,[]⟩ = p.fi
    rw [List.getD_eq_getElem?_getD,List.getElem?_map,hp]; rfl
   rw [hfa] at hi
   have hIl:I < p.l.length:=by have h2:=hi.2; have e:p.fi.b.length = p.l.length:=rfl; omega
   have hpz:p.l.length ≤ 1000:=hz.2 p.fi (List.mem_map.2 ⟨p,List.mem_of_getElem? hp,rfl⟩)
   obtain ⟨bb,ob,hpa,hcb⟩:=elem_at hgood.rd I hIl
   obtain ⟨x,hX⟩:∃ x,p.l[I]? = some x:=⟨_,List.getElem?_eq_getElem hIl⟩
   rw [show p.l[I] = x from (List.getElem?_eq_some_iff.1 hX).2] at hcb
   have hba:blockAt H.ma.st (F:Int) (I:Int) = x:=by
    unfold blockAt
    rw [hfa]
    show p.l.getD I 0 = x
    rw [List.getD_eq_getElem?_getD,hX]; rfl
   have rc:∀ j u,(pfL p)[j]? = some u → wr.cell? ⟨bf,of + F * 2 + j,none⟩ = some u:=fun j u hj=>by
    obtain ⟨b',o',e,hcc⟩:=hrd j u hj
    cases e
    exact hcc
   have rc0:wr.cell? ⟨bf,of + F * 2,none⟩ = some (.int .i64 p.n):=rc 0 _ rfl
   have rc1:wr.cell? ⟨bf,of + F * 2 + 1,none⟩ = some (.slice p.a p.l.length p.c):=rc 1 _ rfl
   have hcont:Hid (contentP H.ma F I = if 0 ≤ x then cutPage (readP H.dk x) (p.n - (I:Int) * 8) else zPg):=Lib.hid (by
    unfold contentP
    rw [show H.ma.ca.find? (fun c=>decide (c.f = (F:Int)) && decide (c.i = (I:Int))) = none from find_noneC hno.out,hba,hfa]
    rfl)
   have hFi:(F:Int) < (H.fi.length:Int):=by omega
   have hIi:(I:Int) < (p.l.length:Int):=by omega
   rw [hpa] at rc1
   rw [hai] at hcx
   have hrd':=Lib.hid hrd
   have hai':=Lib.hid hai
   have hpa':=Lib.hid hpa
   have hfi':=Lib.hid hfa
   clear rc hrd hai hpa hfa hp hX hba hi hgood
   by_cases hx:x < 0
   ·go_wp2_with (refine wpList_stw rfl _ _ _ rfl (w.heap.size + 1) (pgC zPg) rfl rfl _ _ rx rfl psize (pgC_one _) ?_)
    intro w4 rx4 hg4
    have hb4:=hbr.grown hg4 hbr.size (fun k hk=>by cases hk; omega)
    clear hcx
    go_wp2
    refine bodyPost_ret (v:=.agg (pgC zPg)) (results_c Try.results62 _ _ (w.heap.size + 1) _ _ _ rfl rx4 Try.underlying50 rfl psize) rfl ?_
    exact ⟨by rw [hcont.out,if_neg (by omega)],hb4⟩
   ·go_wp2_with (refine wpList_ldg _ _ rfl w.heap.size 5 rfl rfl _ (blk_part bx 5 2) _ Try.underlying33 rfl disk_size ?_)
    refine (rread_any H.dk x _ _ _ _ _ (h.below hbr).dk).mono ?_
    rintro r w4 ⟨rfl,hb4⟩
    have hfr:=Blk.new w4 (pgC zPg) 50
    have hba:Below w4.heap.size w4 (w4.alloc (.cells (pgC zPg) 50)):=(Below.refl _ _).alloc (Nat.le_refl _) _
    have hl4:=hb4.size
    have hlr:=rx.lt
    have bx5:=(bx.ext hb4).ext hba
    have rx5:=(rx.ext hb4).ext hba
    have hbr5:=below_next (below_next hbr hb4) hba
    clear hcx hcb rc0 rc1 bx rx hbr
    go_wp2_with (refine wpList_stw rfl _ _ _ rfl w4.heap.size (pgC (readP H.dk x)) rfl rfl _ _ hfr rfl psize (pgC_one _) ?_)
    intro w5 px6 hg5
    have hb6:=hbr5.grown hg5 hbr5.size (fun k hk=>by cases hk; omega)
    have bx6:=bx5.grown hg5 (fun e=>by have:=Option.some.inj e; omega)
    have rx6:=rx5.grown hg5 (fun e=>by have:=Option.some.inj e; omega)
    clear hfr hba bx5 rx5 hbr5 hg5 hb4
    generalize readP H.dk x = P at px6 hcont
    generalize hp4:w4.heap.size = p4 at *
    clear hp4
    go_upto_region 12 with (fail)
    go_loopw [59] (fun j wr => ∃ k:Nat,k ≤ 8 ∧ j = .int .i64 k ∧ Below w.heap.size w wr ∧ Blk wr w.heap.size (mhC H) 40 ∧ Blk wr (w.heap.size + 1) (pgC zPg) 50 ∧ Blk wr p4 (pgC (cutTo P (p.n - (I:Int) * 8) k)) 50) (fun j _=>8 - (intOf j).toNat)
    case atStart=>exact ⟨0,by omega,rfl,hb6,bx6,rx6,by rw [show cutTo P (p.n - (I:Int) * 8) 0 = P from by ext j hj; simp [cutTo]]; exact px6⟩
    case round=>
     clear hb6 bx6 rx6 px6
     obtain ⟨k,hk,rfl,hbr,bx,rx,px⟩:=hrel
     by_cases hk8:k < 8
     ·have hki:(k:Int) < 8:=by omega
      have hcx:=bx.cell
      unfold mhC at hcx
      rw [hai'.out] at hcx
      have rc0:wr.cell? ⟨bf,of + F * 2,none⟩ = some (.int .i64 p.n):=by
       obtain ⟨b',o',e,hcc⟩:=(hrd0.out.below hbr) 0 _ rfl
       cases e
       exact hcc
      have hw1:IntKind.i64.wrap (8 * (I:Int)) = 8 * (I:Int):=IntWalk.i64_in _ (by omega)
      have hw2:IntKind.i64.wrap (8 * (I:Int) + (k:Int)) = 8 * (I:Int) + (k:Int):=IntWalk.i64_in _ (by omega)
      by_cases hge:p.n ≤ 8 * (I:Int) + k
      ·have hset:Hid ((pgC (cutTo P (p.n - (I:Int) * 8) k)).setIfInBounds k (.int .u8 0) = pgC (cutTo P (p.n - (I:Int) * 8) (k + 1))):=Lib.hid (by
        rw [← cutTo_set P _ k hk8 (by omega)]; exact pgC_set _ k hk8 0)
       generalize hT:cutTo P (p.n - (I:Int) * 8) k = T at px hset
       clear hT
       go_wp2_with (refine wpList_stv rfl _ _ _ rfl p4 k _ [.int .u8 0] rfl rfl rfl _ _ px (by show k + 1 ≤ 8; omega) (by kernel_rfl) (fun u hu=>by cases List.mem_singleton.1 hu; rfl) ?_)
       intro w7 px7 hg7
       rw [putAt_one,hset.out] at px7
       have hbr7:=hbr.grown hg7 hbr.size (fun k hk=>by cases hk; omega)
       have bx7:=bx.grown hg7 (fun e=>by have:=Option.some.inj e; omega)
       have rx7:=rx.grown hg7 (fun e=>by have:=Option.some.inj e; omega)
       clear hbr bx rx px hg7 hcx rc0
       go_wp2
       go_roundw
       case rel=>exact ⟨k + 1,by omega,by go_num,hbr7,bx7,rx7,px7⟩
       case measure=>simp [intOf]; omega
      ·have hset:cutTo P (p.n - (I:Int) * 8) k = cutTo P (p.n - (I:Int) * 8) (k + 1):=by
        ext j hj
        simp only [cutTo,Vector.getElem_ofFn]
        by_cases e:p.n - (I:Int) * 8 ≤ (j:Int)
        ·rw [if_neg (by omega),if_neg (by omega)]
        ·rw [if_neg (by omega),if_neg (by omega)]
       rw [hset] at px
       clear hset
       go_wp2
       go_roundw
       case rel=>exact ⟨k + 1,by omega,by go_num,hbr,bx,rx,px⟩
       case measure=>simp [intOf]; omega
     ·have hki:¬ (k:Int) < 8:=by omega
      rw [cutTo_end _ _ k (by omega)] at px
      have hcont' : Hid (contentP H.ma F I = cutPage P (p.n - (I:Int) * 8)):=Lib.hid (by rw [hcont.out,if_pos (by omega)])
      generalize cutPage P (p.n - (I:Int) * 8) = C at px hcont'
      go_wp2_with (first | (refine wpList_ldg _ _ rfl p4 0 rfl rfl _ px.rd _ Try.underlying50 rfl psize ?_) | (refine wpList_stw rfl _ _ _ rfl (w.heap.size + 1) (pgC C) rfl rfl _ _ rx rfl psize (pgC_one _) ?_))
      intro w7 rx7 hg7
      have hb7:=hbr.grown hg7 hbr.size (fun k hk=>by cases hk; omega)
      go_wp2
      refine bodyPost_ret (v:=.agg (pgC C)) (results_c Try.results62 _ _ (w.heap.size + 1) _ _ _ rfl rx7 Try.underlying50 rfl psize) rfl ?_
      exact ⟨by rw [hcont'.out],hb7⟩
theorem srt_len:∀ {l:List Nat} {a n:Nat},l.Pairwise (· < ·) → (∀ x ∈ l,a ≤ x ∧ x < n) → l.length ≤ n - a
 | [],_,_,_,_=>by simp
 | x :: l,a,n,hs,h=>by
  obtain ⟨h1,h2⟩:=List.pairwise_cons.1 hs
  have hx:=h x List.mem_cons_self
  have:=srt_len (a:=x + 1) (n:=n) h2 fun y hy=>⟨h1 y hy,(h y (List.mem_cons_of_mem _ hy)).2⟩
  rw [List.length_cons]
  omega
theorem ca_few {m:Ma} (h:CaOk m) (hs:wrongSt m.st = 0):m.ca.length ≤ 60:=by
 have hl:∀ c ∈ m.ca,0 ≤ c.f ∧ c.f < 5 ∧ 0 ≤ c.i ∧ c.i < 12:=fun c hc=>by
  have h1:=h.file c hc
  have h2:=inF_lt hs h1
  have h3:=h1.1; have h4:=h1.2
  omega
 have key:=srt_len (l:=m.ca.map fun c=>(12 * c.f + c.i).toNat) (a:=0) (n:=60) ?_ fun x hx => ?_
 ·simpa using key
 ·rw [List.pairwise_map]
  refine List.Pairwise.imp_of_mem ?_ h.srt
  intro a b ha hb hab
  have h1:=hl a ha
  have h2:=hl b hb
  unfold ltC at hab
  show (12 * a.f + a.i).toNat < (12 * b.f + b.i).toNat
  omega
 ·obtain ⟨c,hc,rfl⟩:=List.mem_map.1 hx
  have h1:=hl c hc
  show 0 ≤ (12 * c.f + c.i).toNat ∧ (12 * c.f + c.i).toNat < 60
  omega
theorem files_few {s:St} (hs:wrongSt s = 0):∀ f ∈ s.fs,f.b.length ≤ 12:=fun f hf=>by
 obtain ⟨k,hk,rfl⟩:=List.mem_iff_getElem.1 hf
 have h1:=file_ok hs (f:=(k:Int)) ⟨by omega,by omega⟩
 have hfa:fileAt s (k:Int) = s.fs[k]:=fileAt_nat (List.getElem?_eq_getElem hk)
 rw [hfa] at h1
 obtain ⟨a1,a2,a3,_⟩:=h1
 have e:(s.fs[k].b.length:Int) ≤ 12:=by
  rw [a3]; unfold countS
  split <;> omega
 omega
theorem run_app0 {P:Program} {ρ:Operand → Value} {o:Oper} {w:World} (s x:Operand) (t:TypeId) (ho:o.op = Op.call { callee:=Callee.builtin Builtin.append,args:=#[s,x],argTypes:=#[t,t] })
  (B:Nat) (e:TypeId) (z:Value) (size bytes:Nat) (h1:P.underlying t = some (.slice e)) (h2:(P.info? e).map (fun i=>(i.zero,i.size,i.bytes)) = some (some z,size,bytes)) (h6:z.cells.size = size) (h7:0 < size)
  (g:Nat) (hs:ρ s = .slice (some ⟨g,0,none⟩) 0 0) (hown:Own w B e size (.slice (some ⟨g,0,none⟩) 0 0) 0 [])
  (ao:Option Addr) (m c:Nat) (news:List Value) (hx:ρ x = .slice ao m c) (hnone:ao = none → c = 0) (hmc:m ≤ c) (hn:news.length = m * size) (hrd:RdV w ao news)
  (b1:m ≤ maxLen) (b2:m * bytes ≤ 140737488355328) (hB:B ≤ w.heap.size) :
  ∃ v' w',(execOp ρ o).run P w = .ok (.value v') w' ∧ Below w.heap.size w w' ∧ Own w' B e size v' m news:=by
 obtain ⟨ii,hi,hz,hsz,hby⟩:=info_parts h2
 rcases Nat.eq_zero_or_pos m with h0 | h0
 ·subst h0
  obtain rfl:news = []:=List.eq_nil_of_length_eq_zero (by simpa using hn)
  refine ⟨.slice (some ⟨g,0,none⟩) 0 0,w,?_,Below.refl _ _,hown⟩
  cases ao with
  | none=>simp [execOp,ho,resolve,invoke,builtin,hs,hx,Builtin.append_,run_underlying h1,Go.sizeOf,typeInfo,hi,Builtin.lenOf,Builtin.firstCells,storeCells,Result.andThen]
  | some ad=>simp [execOp,ho,resolve,invoke,builtin,hs,hx,Builtin.append_,run_underlying h1,Go.sizeOf,typeInfo,hi,Builtin.lenOf,Builtin.firstCells,storeCells,loadCells,loadCellsFrom,Result.andThen]
 ·obtain ⟨b,off,rfl,hc⟩:=hrd.at (by rw [hn]; exact Nat.mul_pos h0 h7)
  obtain ⟨v',w',hr,how,hgr⟩:=run_append_arg_grows (P:=P) w t o.type e ii z size bytes h1 hi hz hsz hby h6 h7 ⟨g,0,none⟩ 0 0 [] (by simp) (fun j u h=>by simp at h) ⟨b,off,none⟩ m c news hn (fun j u hj=>by rw [Addr.add_lit]; exact hc j u hj) (by omega) (by omega) (by rw [Nat.zero_add]; exact b2)
  have ho' : Own w' B e size v' m news:=by
   have:=(Own.of_owns how).mono hB
   simpa using this
  refine ⟨v',w',?_,grown_below hgr,ho'⟩
  simp [execOp,ho,resolve,invoke,builtin,hs,hx,hr,Result.andThen]
theorem asked_appQ {P:Program} {ops:Array Oper} {ρ:Operand → Value} {o:Oper} {w:World} {l:List Rel} {i:Nat} {J:(Nat → Bool) → (Nat → Value) → World → Prop} {L:Nat → Bool} {y:Nat → Value} {D:Value → World → Prop} (hw:Region.wanted o (says ρ ops) = true) (h:∃ v' w',(execOp ρ o).run P w = .ok (.value v') w' ∧ D v' w')
  (hJ:∀ v w',D v w' → J (updL L i) (updV y i v) w') (hR:∀ v w',D v w' → rl l i v w') :
  if Region.wanted o (says ρ ops) = true then GivesR P o ρ w (fun v w'=>J (updL L i) (updV y i v) w' ∧ rl l i v w') else J (updL L i) (updV y i undef) w ∧ rl l i undef w:=by
 obtain ⟨v,w',h1,h2⟩:=h
 exact asked_runQ v hw h1 (hJ _ _ h2) (hR _ _ h2)
theorem asked_ex {P:Program} {ops:Array Oper} {ρ:Operand → Value} {o:Oper} {w:World} {l:List Rel} {i:Nat} {D:Value → Prop} (hw:Region.wanted o (says ρ ops) = true) (h:∃ v,(execOp ρ o).run P w = .ok (.value v) w ∧ D v) (hR:∀ v,D v → rl l i v w) :
  if Region.wanted o (says ρ ops) = true then GivesR P o ρ w (fun v w'=>Below w.heap.size w w' ∧ rl l i v w') else rl l i undef w:=by
 obtain ⟨v,h1,h2⟩:=h
 exact asked_val v hw h1 (hR _ h2)
theorem flat_take {α:Type} (enc:α → List Value) (sz:Nat) (hsz:∀ x,(enc x).length = sz):∀ (l:List α) (k:Nat),(l.flatMap enc).take (k * sz) = (l.take k).flatMap enc
 | [],k=>by simp
 | x :: l,0=>by simp
 | x :: l,k + 1=>by
  rw [List.flatMap_cons,List.take_succ_cons,List.flatMap_cons,Nat.succ_mul,Nat.add_comm,List.take_append,hsz,List.take_of_length_le (by rw [hsz]; omega),Nat.add_sub_cancel_left,flat_take enc sz hsz l k]
theorem flat_drop {α:Type} (enc:α → List Value) (sz:Nat) (hsz:∀ x,(enc x).length = sz):∀ (l:List α) (k:Nat),(l.flatMap enc).drop (k * sz) = (l.drop k).flatMap enc
 | [],k=>by simp
 | x :: l,0=>by simp
 | x :: l,k + 1=>by
  rw [List.flatMap_cons,List.drop_succ_cons,Nat.succ_mul,Nat.add_comm,List.drop_append,hsz,List.drop_eq_nil_of_le (by rw [hsz]; omega),List.nil_append,Nat.add_sub_cancel_left,flat_drop enc sz hsz l k]
theorem insert_flat (l : List Cc) (c : Cc) (q : Nat) (hq : q ≤ l.length) : ((l.flatMap ccL).take (q * 3) ++ ccL c) ++ (l.flatMap ccL).drop (q * 3) = (l.insertIdx q c).flatMap ccL := by
  rw [flat_take ccL 3 ccL_len, flat_drop ccL 3 ccL_len]
  have : ∀ (l : List Cc) (q : Nat), q ≤ l.length → l.insertIdx q c = l.take q ++ c :: l.drop q := by
    intro l
    induction l with
    | nil => intro q hq; obtain rfl : q = 0 := by simpa using hq
             rfl
    | cons x l ih => intro q hq; cases q with
      | zero => rfl
      | succ q => rw [List.insertIdx_succ_cons, ih q (by simpa using hq)]; rfl
  rw [this l q hq]
  simp [List.flatMap_append]
theorem SlR.take {w:World} {a:Option Addr} {c n k sz:Nat} {vs:List Value} (h:SlR w a c n vs) (hk:k ≤ n):SlR w a c k (vs.take (k * sz)):=
 ⟨Nat.le_trans hk h.le,h.mx,h.nl,fun j u hj=>h.rd j u (by
  rw [List.getElem?_take] at hj
  split at hj
  ·exact hj
  ·cases hj)⟩
theorem run_take {P:Program} {ρ:Operand → Value} {o:Oper} {W0 w:World} {t e:TypeId} {x i:Operand} {a:Option Addr} {n c k sz:Nat} {vs:List Value} (ho:o.op = .slice t x none (some i) none) (hx:ρ x = .slice a n c) (hy:ρ i = .int .i64 (k:Int)) (hk:k ≤ n)
  (hu:P.underlying t = some (.slice e)) (hs:(P.info? e).map (·.size) = some sz) (h:SlR W0 a c n vs):(execOp ρ o).run P w = .ok (.value (.slice a k c)) w ∧ SlR W0 a c k (vs.take (k * sz)):=by
 obtain ⟨inf,hinf,hsz⟩:∃ inf,P.info? e = some inf ∧ inf.size = sz:=by
  cases h:P.info? e with
  | none=>rw [h] at hs; cases hs
  | some inf=>rw [h] at hs; exact ⟨inf,rfl,by simpa using hs⟩
 have hso:(Go.sizeOf e).run P w = .ok sz w:=by simp [Go.sizeOf,typeInfo,hinf,go_sem,hsz]
 have hle:=h.le
 refine ⟨?_,Nat.le_trans hk h.le,h.mx,h.nl,fun j u hj=>h.rd j u (by
  rw [List.getElem?_take] at hj
  split at hj
  ·exact hj
  ·cases hj)⟩
 have hkc:(k:Int) ≤ (c:Int):=by omega
 cases a with
 | none=>
  have hc0:=h.nl rfl
  subst hc0
  obtain rfl:k = 0:=by omega
  simp [execOp,go_sem,ho,hx,hy,hu,hso,hkc]
 | some ad=>simp [execOp,go_sem,ho,hx,hy,hu,hso,hkc]
theorem run_drop {P:Program} {ρ:Operand → Value} {o:Oper} {W0 w:World} {t e:TypeId} {x i:Operand} {a:Option Addr} {n c k sz:Nat} {vs:List Value} (ho:o.op = .slice t x (some i) none none) (hx:ρ x = .slice a n c) (hy:ρ i = .int .i64 (k:Int)) (hk:k ≤ n)
  (hu:P.underlying t = some (.slice e)) (hs:(P.info? e).map (·.size) = some sz) (hl:vs.length = n * sz) (h:SlR W0 a c n vs):∃ v,(execOp ρ o).run P w = .ok (.value v) w ∧ ∃ a' c',v = .slice a' (n - k) c' ∧ SlR W0 a' c' (n - k) (vs.drop (k * sz)):=by
 obtain ⟨inf,hinf,hsz⟩:∃ inf,P.info? e = some inf ∧ inf.size = sz:=by
  cases h:P.info? e with
  | none=>rw [h] at hs; cases hs
  | some inf=>rw [h] at hs; exact ⟨inf,rfl,by simpa using hs⟩
 have hso:(Go.sizeOf e).run P w = .ok sz w:=by simp [Go.sizeOf,typeInfo,hinf,go_sem,hsz]
 have hle:=h.le
 have hmx:=h.mx
 have hkn:(k:Int) ≤ (n:Int):=by omega
 have hnc:(n:Int) ≤ (c:Int):=by omega
 cases a with
 | none=>
  have hc0:=h.nl rfl
  subst hc0
  obtain rfl:n = 0:=by omega
  obtain rfl:k = 0:=by omega
  obtain rfl:vs = []:=List.eq_nil_of_length_eq_zero (by simpa using hl)
  exact ⟨.slice none 0 0,by simp [execOp,go_sem,ho,hx,hy,hu,hso],none,0,rfl,Nat.le_refl _,Nat.zero_le _,fun _=>rfl,by rw [List.drop_nil]; exact RdV.nil⟩
 | some ad=>
  by_cases hc:k = c
  ·subst hc
   obtain rfl:k = n:=by omega
   refine ⟨.slice (some ad) 0 0,by simp [execOp,go_sem,ho,hx,hy,hu,hso],some ad,0,by rw [Nat.sub_self],by omega,Nat.zero_le _,fun e=>(by cases e),?_⟩
   rw [List.drop_eq_nil_of_le (by omega)]
   exact RdV.nil
  ·refine ⟨.slice (some (ad.add (k * sz))) (n - k) (c - k),?_,some (ad.add (k * sz)),c - k,rfl,by omega,by omega,fun e=>(by cases e),?_⟩
   ·have h1:k < c:=by omega
    simp [execOp,go_sem,ho,hx,hy,hu,hso,hkn,hnc,h1]
    exact fun e=>absurd e.symm hc
   ·intro i u hi
    rw [List.getElem?_drop] at hi
    obtain ⟨b,off,e1,e2⟩:=h.rd _ _ hi
    cases e1
    exact ⟨b,off + k * sz,by rw [Addr.add_lit],by rw [Nat.add_assoc]; exact e2⟩
def jIns (W0:World) (q:Nat) (l:List Cc) (c:Cc):(Nat → Bool) → (Nat → Value) → World → Prop:=fun L y W=>
 Below W0.heap.size W0 W ∧ (L 23 = true → L 15 = true) ∧ (L 15 = true → L 9 = true) ∧
 (L 1 = true → L 9 = false → ∃ g,y 1 = .slice (some ⟨g,0,none⟩) 0 0 ∧ Own W W0.heap.size 85 3 (.slice (some ⟨g,0,none⟩) 0 0) 0 []) ∧
 (L 9 = true → L 15 = false → Own W W0.heap.size 85 3 (y 9) q ((l.flatMap ccL).take (q * 3))) ∧
 (L 14 = true → L 15 = false → ∃ a e,y 14 = .slice a 1 e ∧ SlR W a e 1 (ccL c)) ∧
 (L 15 = true → L 23 = false → Own W W0.heap.size 85 3 (y 15) (q + 1) ((l.flatMap ccL).take (q * 3) ++ ccL c)) ∧
 (L 23 = true → Own W W0.heap.size 85 3 (y 23) (q + 1 + (l.length - q)) (((l.flatMap ccL).take (q * 3) ++ ccL c) ++ (l.flatMap ccL).drop (q * 3)))
theorem jIns_st {W0:World} {q:Nat} {l:List Cc} {c:Cc}:∀ L y W W',Below W.heap.size W W' → jIns W0 q l c L y W → jIns W0 q l c L y W':=
 fun _ _ _ _ hb ⟨h1,h2,h3,h4,h5,h6,h7,h8⟩=>⟨below_next h1 hb,h2,h3,fun a b=>by
  obtain ⟨g,e1,e2⟩:=h4 a b
  exact ⟨g,e1,e2.below hb⟩,fun a b=>(h5 a b).below hb,fun a b=>by
  obtain ⟨x,e,e1,e2⟩:=h6 a b
  exact ⟨x,e,e1,e2.below hb⟩,fun a b=>(h7 a b).below hb,fun a=>(h8 a).below hb⟩
theorem jIns_0 {W0:World} {q:Nat} {l:List Cc} {c:Cc} (y:Nat → Value):jIns W0 q l c (fun _=>false) y W0:=by
 refine ⟨Below.refl _ _,?_,?_,?_,?_,?_,?_,?_⟩ <;> · intro h; cases h
theorem jIns_1 {W0 W:World} {q:Nat} {l:List Cc} {c:Cc} {L:Nat → Bool} {y:Nat → Value} (h:jIns W0 q l c L y W):jIns W0 q l c (updL L 1) (updV y 1 (.slice (some ⟨W.heap.size,0,none⟩) 0 0)) (W.alloc (.cells #[] 85)):=by
 obtain ⟨h1,h2,h3,h4,h5,h6,h7,h8⟩:=jIns_st _ _ _ _ ((Below.refl _ _).alloc (Nat.le_refl _) (.cells #[] 85)) h
 exact ⟨h1,h2,h3,fun _ _=>⟨_,rfl,Own.empty _ _ h.1.size⟩,h5,h6,h7,h8⟩
theorem jIns_9 {W0 W W' : World} {q:Nat} {l:List Cc} {c:Cc} {L:Nat → Bool} {y:Nat → Value} {v:Value} (h:jIns W0 q l c L y W) (hb:Below W.heap.size W W') (ho:Own W' W0.heap.size 85 3 v q ((l.flatMap ccL).take (q * 3))):jIns W0 q l c (updL L 9) (updV y 9 v) W':=by
 obtain ⟨h1,h2,h3,h4,h5,h6,h7,h8⟩:=jIns_st _ _ _ _ hb h
 exact ⟨h1,h2,fun _=>rfl,fun _ e=>(by cases e),fun _ _=>ho,h6,h7,h8⟩
theorem jIns_14 {W0 W W' : World} {q:Nat} {l:List Cc} {c:Cc} {L:Nat → Bool} {y:Nat → Value} {a:Option Addr} {e:Nat} (h:jIns W0 q l c L y W) (hb:Below W.heap.size W W') (ho:SlR W' a e 1 (ccL c)):jIns W0 q l c (updL L 14) (updV y 14 (.slice a 1 e)) W':=by
 obtain ⟨h1,h2,h3,h4,h5,h6,h7,h8⟩:=jIns_st _ _ _ _ hb h
 exact ⟨h1,h2,h3,h4,h5,fun _ _=>⟨a,e,rfl,ho⟩,h7,h8⟩
theorem jIns_15 {W0 W W' : World} {q:Nat} {l:List Cc} {c:Cc} {L:Nat → Bool} {y:Nat → Value} {v:Value} (h:jIns W0 q l c L y W) (h15:L 15 = false) (h9:L 9 = true) (hg:W.grownBy W' (y 9).ownBlock) (ho:Own W' W0.heap.size 85 3 v (q + 1) ((l.flatMap ccL).take (q * 3) ++ ccL c)):jIns W0 q l c (updL L 15) (updV y 15 v) W':=by
 obtain ⟨h1,h2,h3,h4,h5,h6,h7,h8⟩:=h
 have h23:L 23 = true → False:=fun e=>by rw [h2 e] at h15; cases h15
 exact ⟨h1.grown hg h1.size (fun k hk=>(h5 h9 h15).ge k hk),fun _=>rfl,fun _=>h9,fun _ e=>(by rw [show updL L 15 9 = L 9 from rfl,h9] at e; cases e),fun _ e=>(by cases e),fun _ e=>(by cases e),fun _ _=>ho,fun e=>(h23 e).elim⟩
theorem jIns_23 {W0 W W' : World} {q:Nat} {l:List Cc} {c:Cc} {L:Nat → Bool} {y:Nat → Value} {v:Value} (h:jIns W0 q l c L y W) (h23:L 23 = false) (h15:L 15 = true) (hg:W.grownBy W' (y 15).ownBlock) (ho:Own W' W0.heap.size 85 3 v (q + 1 + (l.length - q)) (((l.flatMap ccL).take (q * 3) ++ ccL c) ++ (l.flatMap ccL).drop (q * 3))):jIns W0 q l c (updL L 23) (updV y 23 v) W':=by
 obtain ⟨h1,h2,h3,h4,h5,h6,h7,h8⟩:=h
 exact ⟨h1.grown hg h1.size (fun k hk=>(h7 h15 h23).ge k hk),fun _=>h15,h3,fun _ e=>(by rw [show updL L 23 9 = L 9 from rfl,h3 h15] at e; cases e),fun _ e=>(by rw [show updL L 23 15 = L 15 from rfl,h15] at e; cases e),fun _ e=>(by rw [show updL L 23 15 = L 15 from rfl,h15] at e; cases e),fun _ e=>(by cases e),fun _=>ho⟩
structure Kep (S S' : MW):Prop where
 sp:S'.H.sp = S.H.sp
 fi:S'.H.fi = S.H.fi
 ct:S'.H.ct = S.H.ct
 dk:S'.H.dk = S.H.dk
 fl:S'.H.m.fs.length = S.H.m.fs.length
 sl:S'.H.sl.length = S.H.sl.length
theorem Kep.refl (S:MW):Kep S S:=⟨rfl,rfl,rfl,rfl,rfl,rfl⟩
theorem Kep.trans {a b c:MW} (h:Kep a b) (k:Kep b c):Kep a c:=⟨k.sp.trans h.sp,k.fi.trans h.fi,k.ct.trans h.ct,k.dk.trans h.dk,k.fl.trans h.fl,k.sl.trans h.sl⟩
theorem MkO.rdM {w:World} {B b:Nat} {S:MW} (h:MkO w B b S):RdV w (some ⟨b,1,none⟩) (mhC S.H).toList:=blk_part h.blk 1 11
theorem Bd.cas {m:Ma} {T:List (List En)} (h:Bd m T):m.ca.length ≤ 60:=ca_few (m:=fullM m T) h.rt.ca h.rt.pt.st
theorem Bd.fis {m:Ma} {T:List (List En)} (h:Bd m T):∀ f ∈ m.st.fs,f.b.length ≤ 12:=files_few h.rt.pt.st
def jPk (S:MW) (B b:Nat) (w:World) (ks:List (Nat × Array Value × TypeId)):(Nat → Bool) → (Nat → Value) → World → Prop:=fun _ _ W=>
 ∃ a c l,MkO W B b (S.lst a c l) ∧ MS w b S W (S.lst a c l) ∧ ∀ t ∈ ks,Blk W t.1 t.2.1 t.2.2 ∧ ¬ kbM b S t.1
theorem jPk_st {S:MW} {B b:Nat} {w:World} {ks:List (Nat × Array Value × TypeId)}:∀ L y W W',Below W.heap.size W W' → jPk S B b w ks L y W → jPk S B b w ks L y W':=
 fun _ _ _ _ hb ⟨a,c,l,h1,h2,h3⟩=>⟨a,c,l,h1.below hb,h2.below hb,fun t ht=>⟨(h3 t ht).1.ext hb,(h3 t ht).2⟩⟩
theorem jPk_pick {S:MW} {B b:Nat} {w W:World} {ks:List (Nat × Array Value × TypeId)} {L L' : Nat → Bool} {y:Nat → Value} {y' : Value → Nat → Value} (n:Int) (hn : -9223372036854775808 ≤ n ∧ n ≤ 9223372036854775807) (h:jPk S B b w ks L y W) {R:Value → World → Prop} (hR:∀ x:Int,0 ≤ x → x < 256 → (x < n ∨ x = 0) → ∀ W',R (.int .i64 x) W') :
  Calls Try.prog 28 #[.pointer (some ⟨b,0,none⟩),.int .i64 n] W fun e W' => ∃ v,e = .returned v ∧ jPk S B b w ks L' (y' v) W' ∧ R v W':=by
 obtain ⟨a,c,l,h1,h2,h3⟩:=h
 refine (rpick_any _ n B b W h1 hn).mono ?_
 rintro r W' ⟨x,a',c',l',rfl,k1,k2,k3,_⟩
 exact ⟨_,rfl,⟨a',c',l',k1,h2.trans k2,fun t ht=>⟨k2.blkN (h3 t ht).1 (h3 t ht).2,(h3 t ht).2⟩⟩,hR x k3.1 k3.2.1 k3.2.2 W'⟩
theorem jPk_page {S:MW} {B b:Nat} {w W:World} {ks:List (Nat × Array Value × TypeId)} {L L' : Nat → Bool} {y:Nat → Value} {y' : Value → Nat → Value} (h:jPk S B b w ks L y W) {R:Value → World → Prop} (hR:∀ P W',R (.agg (pgC P)) W') :
  Calls Try.prog 31 #[.pointer (some ⟨b,0,none⟩)] W fun e W' => ∃ v,e = .returned v ∧ jPk S B b w ks L' (y' v) W' ∧ R v W':=by
 obtain ⟨a,c,l,h1,h2,h3⟩:=h
 refine (rpage_any _ B b W h1).mono ?_
 rintro r W' ⟨P,a',c',l',rfl,k1,k2⟩
 exact ⟨_,rfl,⟨a',c',l',k1,h2.trans k2,fun t ht=>⟨k2.blkN (h3 t ht).1 (h3 t ht).2,(h3 t ht).2⟩⟩,hR P W'⟩
theorem atC_eq {l:List Cc} {f i:Int} {q:Nat} (hq:q ≤ l.length) (hno:∀ d ∈ l.take q,geC f i d = false) (hy:q = l.length ∨ ∃ c,l[q]? = some c ∧ geC f i c = true):atC l f i = q:=by
 unfold atC
 rcases hy with rfl | ⟨c,hc,hg⟩
 ·rw [List.take_of_length_le (Nat.le_refl _)] at hno
  rw [List.findIdx?_eq_none_iff.2 fun d hd=>hno d hd]; rfl
 ·obtain ⟨hl,rfl⟩:=List.getElem?_eq_some_iff.1 hc
  rw [List.findIdx?_eq_some_iff_getElem.2 ⟨hl,hg,fun j hj=>by
   have:=hno (l[j]'(by omega)) (List.mem_take_iff_getElem.2 ⟨j,by omega,rfl⟩)
   rw [this]; decide⟩]; rfl
def CachedR (S:MW) (f i:Int) (B b:Nat) (w:World) (r:Ending) (w' : World):Prop:=∃ x S',r = .returned (.int .i64 x) ∧ MkO w' B b S' ∧ MS w b S w' S' ∧ Kep S S' ∧ S'.T = S.T ∧ Bd S'.H.ma S'.T ∧ (x = -1 ∨ ∃ c ∈ S'.H.ca,c.f = f ∧ c.i = i ∧ c.k = x)
theorem rcached_any (S:MW) (f i:Int) (B b:Nat) (w:World) (h:MkO w B b S) (hd:Bd S.H.ma S.T) (hi:inF S.H.ma.st f i) :
  Calls Try.prog 107 #[.pointer (some ⟨b,0,none⟩),.int .i64 f,.int .i64 i] w (CachedR S f i B b w):=by
 have z7:S.H.ca.length ≤ 60:=hd.cas
 have hBs:=Lib.hid h.bs
 have hb':=h.lt
 obtain ⟨F,rfl⟩:=Int.eq_ofNat_of_zero_le hi.1.1
 obtain ⟨I,rfl⟩:=Int.eq_ofNat_of_zero_le hi.2.1
 have hFl:F < S.H.fi.length:=by have:=hi.1.2; simp [MH.ma,stOf] at this; omega
 have hFi:(F:Int) < (S.H.fi.length:Int):=by omega
 have hlim:=inF_lt hd.few.2.2.2.2.1 hi
 have hF5:(F:Int) < 5:=hlim.1
 have hI12:(I:Int) < 12:=hlim.2.1
 obtain ⟨N,hN⟩:∃ N,(fileAt S.H.ma.st (F:Int)).n = N:=⟨_,rfl⟩
 obtain ⟨p,hp⟩:∃ p,S.H.fi[F]? = some p:=⟨_,List.getElem?_eq_getElem hFl⟩
 have hpn:p.n = N:=by
  rw [← hN]
  have:fileAt S.H.ma.st (F:Int) = p.fi:=fileAt_nat (by show (S.H.fi.map PF.fi)[F]? = _; rw [List.getElem?_map,hp]; rfl)
  rw [this]; rfl
 have hp':=Lib.hid hp
 have hN':=Lib.hid hN
 have hpn':=Lib.hid hpn
 have hd':=Lib.hid hd
 have hi':=Lib.hid hi
 clear hd hi hp hN hpn hlim
 go_enter Try.func107,Try.ntmps107
 have hc:=h.blk.cell
 unfold mkC at hc
 go_upto_region 2 with (fail)
 clear hc
 go_loopw [20] (fun k wr => ∃ q:Nat,q ≤ S.H.ca.length ∧ k = .int .i64 q ∧ Below w.heap.size w wr ∧ Hid (∀ d ∈ S.H.ca.take q,¬ (d.f = (F:Int) ∧ d.i = (I:Int)))) (fun k _=>S.H.ca.length - (intOf k).toNat)
 case atStart=>exact ⟨0,Nat.zero_le _,rfl,Below.refl _ _,Lib.hid (by simp)⟩
 case round=>
  obtain ⟨q,hq,rfl,hbr,hno⟩:=hrel
  by_cases hql:q < S.H.ca.length
  ·obtain ⟨bc,oc,hca,hrd⟩:=cc_elem (h.ma.rd.below hbr).ca.rd q hql
   obtain ⟨c,hc⟩:∃ c,S.H.ca[q]? = some c:=⟨_,List.getElem?_eq_getElem hql⟩
   rw [show S.H.ca[q] = c from (List.getElem?_eq_some_iff.1 hc).2] at hrd
   have hqi:(q:Int) < (S.H.ca.length:Int):=by omega
   have hc':=Lib.hid hc
   clear hc
   rw [hca]
   go_wp2_with (first | (refine wpList_ldg _ _ rfl bc (oc + q * 3) rfl rfl _ hrd _ Try.underlying85 rfl cached_size ?_) | (refine wpList_stn rfl _ _ _ rfl (ccC c) rfl rfl rfl cached_size (ccC_one c) ?_))
   intro w3 hb3 cx3
   have hbr3:=below_next hbr hb3
   have hcx:=cx3.cell
   have hl3:=cx3.lt
   clear hbr hb3 hrd
   unfold ccC at hcx
   by_cases hy:c.f = (F:Int) ∧ c.i = (I:Int)
   ·obtain ⟨hy1,hy2⟩:=hy
    rw [hy1,hy2] at hcx
    go_wp2
    go_ret
    exact ⟨c.k,S,rfl,h.below hbr3,(MS.refl w b S).below hbr3,.refl _,rfl,hd'.out,.inr ⟨c,List.mem_of_getElem? hc'.out,hy1,hy2,rfl⟩⟩
   ·have hno' : Hid (∀ d ∈ S.H.ca.take (q + 1),¬ (d.f = (F:Int) ∧ d.i = (I:Int))):=Lib.hid fun d hd=>by
     rw [take_at hc'.out] at hd
     rcases List.mem_append.1 hd with hd | hd
     ·exact hno.out d hd
     ·rw [List.mem_singleton.1 hd]; exact hy
    by_cases hy1:c.f = (F:Int)
    ·have hy2:¬ c.i = (I:Int):=fun e=>hy ⟨hy1,e⟩
     clear hy
     go_wp2
     go_roundw
     case rel=>exact ⟨q + 1,by omega,by go_num,hbr3,hno'⟩
     case measure=>simp [intOf]; omega
    ·clear hy
     go_wp2
     go_roundw
     case rel=>exact ⟨q + 1,by omega,by go_num,hbr3,hno'⟩
     case measure=>simp [intOf]; omega
  ·have hqi:¬ (q:Int) < (S.H.ca.length:Int):=by omega
   rw [List.take_of_length_le (by omega)] at hno
   have h1:=h.below hbr
   have s1:=(MS.refl w b S).below hbr
   have hn0:=Lib.hid (h1.new (Nat.le_refl _))
   have hc:=h1.blk.cell
   unfold mkC at hc
   go_wp2_with (refine wpList_ldg _ _ rfl b 1 rfl rfl _ h1.rdM _ Try.underlying40 rfl machine_size ?_)
   refine (rcontent_any S.H F I _ h1.ma.rd ⟨by omega,fun f hf=>Nat.le_trans (hd'.out.fis f hf) (by decide)⟩ (fun c hc=>hd'.out.rt.ca.lt c hc) (by have:=hi'.out.1; simpa [MH.ma,stOf] using this) hi'.out.2).mono ?_
   rintro r w2 ⟨rfl,hb2⟩
   have hP:Hid (cutPage (contentP S.H.ma F I) (N - (I:Int) * 8) = contentP S.H.ma F I ∧ contentP S.H.ma F I = diskP S.H.ma F I):=Lib.hid (by
    have e:contentP S.H.ma F I = diskP S.H.ma F I:=by
     unfold contentP diskP
     rw [show S.H.ma.ca.find? (fun c=>decide (c.f = (F:Int)) && decide (c.i = (I:Int))) = none from find_noneC hno.out]
    exact ⟨by rw [e,← hN'.out]; exact disk_tail _ _ _,e⟩)
   generalize contentP S.H.ma F I = P at hP
   have h2:=h1.below hb2
   have s2:=s1.below hb2
   clear h1 s1 hc hb2 h hbr
   go_wp2_with (refine wpList_stn rfl _ _ _ rfl (pgC P) rfl rfl rfl psize (pgC_one P) ?_)
   intro w3 hb3 px3
   have h3:=h2.below hb3
   have s3:=s2.below hb3
   have hnp:=Lib.hid (h2.new (Nat.le_refl _))
   have hp0:=Lib.hid s2.size
   have hp1:w2.heap.size < w3.heap.size:=px3.lt
   have hpB:B ≤ w2.heap.size:=Nat.le_trans hBs.out hp0.out
   clear h2 s2 hb3
   generalize hp4:w2.heap.size = p4 at *
   clear hp4
   go_wp2_with fail
   refine (rpick_any _ 2 B b _ h3 (by omega)).mono ?_
   rintro r w4 ⟨x,a4,c4,l4,rfl,h4,s4,hx,_⟩
   have px4:=s4.blkN px3 hnp.out
   have s4:=s3.trans s4
   clear h3 s3 px3 hx hp1
   go_upto_if 46 with (fail)
   go_cut [10] (fun s10 wx => ∃ (d:Bool) (a:Option Addr) (c:Nat) (l:List UInt8) (P:Page),s10 = .bool d ∧ MkO wx B b (S.lst a c l) ∧ MS w b S wx (S.lst a c l) ∧ Blk wx p4 (pgC P) 50 ∧ Hid (cutPage P (N - (I:Int) * 8) = P ∧ (d = false → P = diskP S.H.ma F I)))
   case first=>
    by_cases hx1:x = 1
    ·subst hx1
     go_wp2_with fail
     refine (rpage_any _ B b _ h4).mono ?_
     rintro r w5 ⟨P2,a5,c5,l5,rfl,h5,s5⟩
     rw [lst_two] at h5 s5
     have px5:=s5.blkN px4 hnp.out
     have s5:=s4.trans s5
     clear h4 s4 px4 hP
     go_wp2_with (refine wpList_stw rfl _ _ _ rfl p4 (pgC P2) rfl rfl _ _ px5 rfl psize (pgC_one _) ?_)
     intro w6 px6 hg6
     have h6:=h5.locT px5 (by decide) hnp.out hpB hg6
     have s6:=s5.loc hg6 hp0.out
     clear h5 s5 px5 hg6
     go_upto_region 11 with (fail)
     go_loopw [49] (fun j wr => ∃ k:Nat,k ≤ 8 ∧ j = .int .i64 k ∧ MkO wr B b (S.lst a5 c5 l5) ∧ MS w b S wr (S.lst a5 c5 l5) ∧ Blk wr p4 (pgC (cutTo P2 (N - (I:Int) * 8) k)) 50) (fun j _=>8 - (intOf j).toNat)
     case atStart=>exact ⟨0,by omega,rfl,h6,s6,by rw [show cutTo P2 (N - (I:Int) * 8) 0 = P2 from by ext j hj; simp [cutTo]]; exact px6⟩
     case round=>
      clear h6 s6 px6
      obtain ⟨k,hk,rfl,hm,hs,px⟩:=hrel
      by_cases hk8:k < 8
      ·have hki:(k:Int) < 8:=by omega
       have hcx:=hm.blk.cell
       unfold mkC at hcx
       dsimp only [MW.lst] at hcx
       obtain ⟨bf,of,hai,hrd⟩:=elemR pfL_len (by decide) hm.ma.rd.st.rd F hFl
       dsimp only [MW.lst] at hai hrd
       rw [show S.H.fi[F] = p from (List.getElem?_eq_some_iff.1 hp'.out).2] at hrd
       rw [hai] at hcx
       have rc0:wr.cell? ⟨bf,of + F * 2,none⟩ = some (.int .i64 N):=by
        rw [← hpn'.out]
        obtain ⟨b',o',e,hcc⟩:=hrd 0 _ rfl
        cases e
        exact hcc
       clear hrd hai
       have hw1:IntKind.i64.wrap (8 * (I:Int)) = 8 * (I:Int):=IntWalk.i64_in _ (by omega)
       have hw2:IntKind.i64.wrap (8 * (I:Int) + (k:Int)) = 8 * (I:Int) + (k:Int):=IntWalk.i64_in _ (by omega)
       by_cases hge:N ≤ 8 * (I:Int) + k
       ·have hset:Hid ((pgC (cutTo P2 (N - (I:Int) * 8) k)).setIfInBounds k (.int .u8 0) = pgC (cutTo P2 (N - (I:Int) * 8) (k + 1))):=Lib.hid (by
         rw [← cutTo_set P2 _ k hk8 (by omega)]; exact pgC_set _ k hk8 0)
        generalize hT:cutTo P2 (N - (I:Int) * 8) k = T at px hset
        clear hT
        go_wp2_with (refine wpList_stv rfl _ _ _ rfl p4 k _ [.int .u8 0] rfl rfl rfl _ _ px (by show k + 1 ≤ 8; omega) (by kernel_rfl) (fun u hu=>by cases List.mem_singleton.1 hu; rfl) ?_)
        intro w7 px7 hg7
        rw [putAt_one,hset.out] at px7
        have hm7:=hm.locT px (by decide) hnp.out hpB hg7
        have hs7:=hs.loc hg7 hp0.out
        clear hm hs px hg7 hcx rc0
        go_wp2
        go_roundw
        case rel=>exact ⟨k + 1,by omega,by go_num,hm7,hs7,px7⟩
        case measure=>simp [intOf]; omega
       ·have hset:cutTo P2 (N - (I:Int) * 8) k = cutTo P2 (N - (I:Int) * 8) (k + 1):=by
         ext j hj
         simp only [cutTo,Vector.getElem_ofFn]
         by_cases e:N - (I:Int) * 8 ≤ (j:Int)
         ·rw [if_neg (by omega),if_neg (by omega)]
         ·rw [if_neg (by omega),if_neg (by omega)]
        rw [hset] at px
        clear hset
        go_wp2
        go_roundw
        case rel=>exact ⟨k + 1,by omega,by go_num,hm,hs,px⟩
        case measure=>simp [intOf]; omega
      ·have hki:¬ (k:Int) < 8:=by omega
       rw [cutTo_end _ _ k (by omega)] at px
       have hC:Hid (cutPage (cutPage P2 (N - (I:Int) * 8)) (N - (I:Int) * 8) = cutPage P2 (N - (I:Int) * 8)):=Lib.hid (cut_cut _ _)
       generalize cutPage P2 (N - (I:Int) * 8) = C at px hC
       go_wp2
       go_meet
       case rel=>exact ⟨true,a5,c5,l5,C,rfl,hm,hs,px,Lib.hid ⟨hC.out,fun h=>(by cases h)⟩⟩
    ·go_wp2
     go_meet
     case rel=>exact ⟨false,a4,c4,l4,P,rfl,h4,s4,px4,Lib.hid ⟨hP.out.1,fun _=>hP.out.2⟩⟩
   case rest=>
    obtain ⟨d,a5,c5,l5,P2,rfl,h5,s5,px5,hP2⟩:=hcut
    clear h4 s4 px4 hP
    go_upto_region 16 with (fail)
    refine wp_growPQ 9 [.v (.pointer (some ⟨b,0,none⟩)),.v (.agg (pgC P2)),_,.r 3 ((fixR fun v => ∃ x:Int,v = .int .i64 x ∧ 0 ≤ x)),.r 4 ((fixR fun v => ∃ u,v = .bool u)),_,_,_,.r 8 ((fixR fun v => ∃ u,v = .agg (frC ⟨P2,1,u,d,(F:Int),(I:Int)⟩)))] (jPk S B b w [(p4,pgC P2,50)]) jPk_st (fun _=>⟨a5,c5,l5,h5,s5,by simpa using ⟨px5,hnp.out⟩⟩) (Qk jPk_st rfl (all_cons ?_ (Qk jPk_st rfl (all_cons ?_ (all_cons ?_ (Qk jPk_st rfl (Qk jPk_st rfl (Qk jPk_st rfl (all_cons ?_ (all_nil)))))))))) (fun _=>rfl) rfl ?_
    ·intro ρ y W L hw hn hLi hLd hb hd
     refine askQ jPk_st (fun _ _ h=>h) hb ?_
     have E9:ρ (.tmp 9) = .pointer (some ⟨p4,0,none⟩):=(hn (.tmp 9) rfl).trans rfl
     obtain ⟨a,c,l,m1,m2,m3⟩:=hb
     have m3:=(m3 _ (List.mem_singleton.2 rfl)).1
     refine asked_val (.agg (pgC P2)) (want_free rfl) (run_load_blk rfl E9 m3 Try.underlying50 rfl psize) rfl
    ·intro ρ y W L hw hn hLi hLd hb hd; have E72:=hw 72 2 rfl; have h2:y 2 = _:=hd 2 rfl
     have EC:∀ v,ρ (.const v) = v:=fun v=>hn (.const v) trivial
     have EF:∀ f,ρ (.func f) = .func (.func f) #[] #[]:=fun f=>hn (.func f) trivial
     refine asked_callQ _ _ (want_free rfl) (run_call rfl (EF _) Try.func28 (by kernel_rfl) (by kernel_rfl) (by simp only [List.map_toArray,List.map_cons,List.map_nil,E72,h2,EC,EF]; rfl)) ?_
     exact jPk_pick 2 (by omega) hb fun x h1 _ _ _=>⟨x,rfl,h1⟩
    ·intro ρ y W L hw hn hLi hLd hb hd
     refine askQ jPk_st (fun _ _ h=>h) hb ?_
     have E73:=hw 73 3 rfl
     have h3:=hd 3 rfl
     obtain ⟨x,hx,_⟩:=h3
     refine asked_val _ (want_free rfl) (run_bin rfl (E73.trans hx) (hn (.const _) trivial) (by simp [go_sem]; rfl)) ⟨_,rfl⟩
    ·intro ρ y W L hw hn hLi hLd hb hd
     refine askQ jPk_st (fun _ _ h=>h) hb ?_
     have E71:=hw 71 1 rfl
     have h1:y 1 = _:=hd 1 rfl
     have E74:=hw 74 4 rfl
     have h4:=hd 4 rfl
     have E75:=hw 75 5 rfl
     have h5:y 5 = _:=hd 5 rfl
     have E76:=hw 76 6 rfl
     have h6:y 6 = _:=hd 6 rfl
     have E77:=hw 77 7 rfl
     have h7:y 7 = _:=hd 7 rfl
     obtain ⟨u,hu⟩:=h4
     have EC:∀ v,ρ (.const v) = v:=fun v=>hn (.const v) trivial
     refine asked_val (.agg (frC ⟨P2,1,u,d,(F:Int),(I:Int)⟩)) (want_free rfl) (by simp [execOp,go_sem,E71,h1,E74,E75,h5,E76,h6,E77,h7,EC,hu,pgC,frC]) ⟨_,rfl⟩
    intro y W5 hbW5 hRW5
    have hy3:((fixR fun v => ∃ x:Int,v = .int .i64 x ∧ 0 ≤ x)).r (y 3) W5:=hRW5 3 (by decide)
    have hy4:((fixR fun v => ∃ u,v = .bool u)).r (y 4) W5:=hRW5 4 (by decide)
    have hy8:((fixR fun v => ∃ u,v = .agg (frC ⟨P2,1,u,d,(F:Int),(I:Int)⟩))).r (y 8) W5:=hRW5 8 (by decide)
    clear hRW5
    obtain ⟨a6,c6,l6,h6,s6,px6⟩:=hbW5
    have px6:=(px6 _ (List.mem_singleton.2 rfl)).1
    obtain ⟨u,hu⟩:=hy8
    rw [hu]
    clear hu h5 s5 px5
    go_wp2_with fail
    refine (rframe_any _ _ B b _ h6 (by have:=hd'.out.few.1; show S.H.m.fs.length ≤ 1000; have e:S.H.ma.m.fs.length = S.H.m.fs.length:=rfl; omega)).mono ?_
    rintro r w7 ⟨x7,a7,c7,l7,fs,rfl,h7,s7,hx7⟩
    rw [lst_two] at h7 s7
    have s7:=s6.trans s7
    clear h6 s6 px6
    rcases hx7 with ⟨rfl,rfl⟩ | ⟨j,rfl,hj,hjr,rfl⟩
    ·go_wp2
     go_ret
     exact ⟨-1,_,rfl,h7,s7,⟨rfl,rfl,rfl,rfl,rfl,rfl⟩,rfl,hd'.out,.inl rfl⟩
    ·have hj' : j < S.H.m.fs.length:=hj
     have hjr':=Lib.hid hjr
     have hj0:(0:Int) ≤ (j:Int):=by omega
     clear hj hjr
     go_upto_region 20 with (fail)
     go_loopw [13] (fun k wr => ∃ q:Nat,q ≤ S.H.ca.length ∧ k = .int .i64 q ∧ Below w7.heap.size w7 wr ∧ Hid (∀ d ∈ S.H.ca.take q,geC F I d = false)) (fun k _=>S.H.ca.length - (intOf k).toNat)
     case atStart=>exact ⟨0,Nat.zero_le _,rfl,Below.refl _ _,Lib.hid (by simp)⟩
     case round=>
      obtain ⟨q,hq,rfl,hb7,hno7⟩:=hrel
      have hm8:=h7.below hb7
      have hwc:IntKind.i64.wrap (100 * (F:Int)) = 100 * (F:Int):=IntWalk.i64_in _ (by omega)
      have hwd:IntKind.i64.wrap (100 * (F:Int) + (I:Int)) = 100 * (F:Int) + (I:Int):=IntWalk.i64_in _ (by omega)
      by_cases hql:q < S.H.ca.length
      ·obtain ⟨bc,oc,hca,hrd⟩:=cc_elem hm8.ma.rd.ca.rd q hql
       have hca:S.H.ac = some ⟨bc,oc,none⟩:=hca
       obtain ⟨c,hc⟩:∃ c,S.H.ca[q]? = some c:=⟨_,List.getElem?_eq_getElem hql⟩
       have hrd:RdV wr (some ⟨bc,oc + q * 3,none⟩) (ccL c):=by rw [← (List.getElem?_eq_some_iff.1 hc).2]; exact hrd
       have hqi:(q:Int) < (S.H.ca.length:Int):=by omega
       have hcl:=hd'.out.rt.ca.file c (List.mem_of_getElem? hc)
       have hcl2:=inF_lt hd'.out.few.2.2.2.2.1 hcl
       have hcl1:0 ≤ c.f ∧ 0 ≤ c.i:=⟨hcl.1.1,hcl.2.1⟩
       have hwa:IntKind.i64.wrap (100 * c.f) = 100 * c.f:=IntWalk.i64_in _ (by omega)
       have hwb:IntKind.i64.wrap (100 * c.f + c.i) = 100 * c.f + c.i:=IntWalk.i64_in _ (by omega)
       have hq0:∀ W,Below wr.heap.size wr W → W.cell? ⟨bc,oc + q * 3,none⟩ = some (.int .i64 c.f):=fun W hb=>by
        obtain ⟨b',o',e,hcc⟩:=(hrd.below hb) 0 _ rfl
        cases e
        exact hcc
       have hq1:∀ W,Below wr.heap.size wr W → W.cell? ⟨bc,oc + q * 3 + 1,none⟩ = some (.int .i64 c.i):=fun W hb=>by
        obtain ⟨b',o',e,hcc⟩:=(hrd.below hb) 1 _ rfl
        cases e
        exact hcc
       have hgc:Hid (geC F I c = true ↔ ¬ 100 * c.f + c.i < 100 * (F:Int) + (I:Int)):=Lib.hid (by
        rw [geC_iff]
        omega)
       by_cases hlt:100 * c.f + c.i < 100 * (F:Int) + (I:Int)
       ·skip
        go_upto_region 20 with (fail)
        refine wp_growP 35 [_,_,_,_,_,_,_,_,_,_,_,_,_,_,_,_,_,_,_,_,_,_,_,_,_,_,_,_,_,_,_,_,_,_,.v (.bool true)] (Gk rfl (Gk rfl (Gk rfl (Gf b 1 rfl rfl (Gf b 10 rfl rfl (Gl hm8.blk (V:=.slice S.H.ac S.H.ca.length S.H.cc) (by simp [mkC,MW.frs,MW.lst]) rfl rfl rfl rfl (Gn rfl rfl rfl rfl (Gb (.bool true) (by simp [go_sem,hqi,hql]) rfl rfl rfl rfl rfl (Gk rfl (Gk rfl (Gk rfl (Gf b 1 rfl rfl (Gf b 10 rfl rfl (Gl hm8.blk (V:=.slice (some ⟨bc,oc,none⟩) S.H.ca.length S.H.cc) (by simp [mkC,MW.frs,MW.lst,hca]) rfl rfl rfl rfl (Gk rfl (Gr (.pointer (some ⟨bc,oc + q * 3,none⟩)) (fun ρ y W hb hk=>(run_idx rfl (kx_at rfl hk) (kx_at rfl hk) hql Try.underlying37 cached_size)) rfl rfl (Gf bc (oc + q * 3) rfl rfl (Gc (.int .i64 c.f) (fun W hb=>by simp [hq0 _ hb]) rfl rfl rfl rfl (Gb (.int .i64 (100 * c.f)) (by simp [go_sem,hwa]) rfl rfl rfl rfl rfl (Gk rfl (Gk rfl (Gf b 1 rfl rfl (Gf b 10 rfl rfl (Gl hm8.blk (V:=.slice (some ⟨bc,oc,none⟩) S.H.ca.length S.H.cc) (by simp [mkC,MW.frs,MW.lst,hca]) rfl rfl rfl rfl (Gk rfl (Gr (.pointer (some ⟨bc,oc + q * 3,none⟩)) (fun ρ y W hb hk=>(run_idx rfl (kx_at rfl hk) (kx_at rfl hk) hql Try.underlying37 cached_size)) rfl rfl (Gf bc (oc + q * 3 + 1) rfl rfl (Gc (.int .i64 c.i) (fun W hb=>by simp [hq1 _ hb]) rfl rfl rfl rfl (Gb (.int .i64 (100 * c.f + c.i)) (by simp [go_sem,hwb]) rfl rfl rfl rfl rfl (Gk rfl (Gb (.int .i64 (100 * (F:Int))) (by simp [go_sem,hwc]) rfl rfl rfl rfl rfl (Gk rfl (Gb (.int .i64 (100 * (F:Int) + (I:Int))) (by simp [go_sem,hwd]) rfl rfl rfl rfl rfl (Gb (.bool true) (by simp [go_sem,hlt]) rfl rfl rfl rfl rfl (Gk rfl (all_nil)))))))))))))))))))))))))))))))))))) (fun _=>rfl) rfl ?_
        intro y W8 hbW8 _
        have hno8:Hid (∀ d ∈ S.H.ca.take (q + 1),geC F I d = false):=Lib.hid fun d hd=>by
         rw [take_at hc] at hd
         rcases List.mem_append.1 hd with hd | hd
         ·exact hno7.out d hd
         ·rw [List.mem_singleton.1 hd]
          cases hg:geC F I c with
          | false=>rfl
          | true=>exact absurd hlt (hgc.out.1 hg)
        have hb8:=below_next hb7 hbW8
        clear hbW8 hc hca hrd hq0 hq1 hgc hno7 hm8
        go_wp2
        go_roundw
        case rel=>exact ⟨q + 1,by omega,by go_num,hb8,hno8⟩
        case measure=>simp [intOf]; omega
       ·skip
        go_upto_region 20 with (fail)
        refine wp_growP 35 [_,_,_,_,_,_,_,_,_,_,_,_,_,_,_,_,_,_,_,_,_,_,_,_,_,_,_,_,_,_,_,_,_,_,.v (.bool false)] (Gk rfl (Gk rfl (Gk rfl (Gf b 1 rfl rfl (Gf b 10 rfl rfl (Gl hm8.blk (V:=.slice S.H.ac S.H.ca.length S.H.cc) (by simp [mkC,MW.frs,MW.lst]) rfl rfl rfl rfl (Gn rfl rfl rfl rfl (Gb (.bool true) (by simp [go_sem,hqi,hql]) rfl rfl rfl rfl rfl (Gk rfl (Gk rfl (Gk rfl (Gf b 1 rfl rfl (Gf b 10 rfl rfl (Gl hm8.blk (V:=.slice (some ⟨bc,oc,none⟩) S.H.ca.length S.H.cc) (by simp [mkC,MW.frs,MW.lst,hca]) rfl rfl rfl rfl (Gk rfl (Gr (.pointer (some ⟨bc,oc + q * 3,none⟩)) (fun ρ y W hb hk=>(run_idx rfl (kx_at rfl hk) (kx_at rfl hk) hql Try.underlying37 cached_size)) rfl rfl (Gf bc (oc + q * 3) rfl rfl (Gc (.int .i64 c.f) (fun W hb=>by simp [hq0 _ hb]) rfl rfl rfl rfl (Gb (.int .i64 (100 * c.f)) (by simp [go_sem,hwa]) rfl rfl rfl rfl rfl (Gk rfl (Gk rfl (Gf b 1 rfl rfl (Gf b 10 rfl rfl (Gl hm8.blk (V:=.slice (some ⟨bc,oc,none⟩) S.H.ca.length S.H.cc) (by simp [mkC,MW.frs,MW.lst,hca]) rfl rfl rfl rfl (Gk rfl (Gr (.pointer (some ⟨bc,oc + q * 3,none⟩)) (fun ρ y W hb hk=>(run_idx rfl (kx_at rfl hk) (kx_at rfl hk) hql Try.underlying37 cached_size)) rfl rfl (Gf bc (oc + q * 3 + 1) rfl rfl (Gc (.int .i64 c.i) (fun W hb=>by simp [hq1 _ hb]) rfl rfl rfl rfl (Gb (.int .i64 (100 * c.f + c.i)) (by simp [go_sem,hwb]) rfl rfl rfl rfl rfl (Gk rfl (Gb (.int .i64 (100 * (F:Int))) (by simp [go_sem,hwc]) rfl rfl rfl rfl rfl (Gk rfl (Gb (.int .i64 (100 * (F:Int) + (I:Int))) (by simp [go_sem,hwd]) rfl rfl rfl rfl rfl (Gb (.bool false) (by simp [go_sem,hlt]) rfl rfl rfl rfl rfl (Gk rfl (all_nil)))))))))))))))))))))))))))))))))))) (fun _=>rfl) rfl ?_
        intro y W8 hbW8 _
        have hat:Hid (atC S.H.ca F I = q):=Lib.hid (atC_eq hq hno7.out (.inr ⟨c,hc,hgc.out.2 hlt⟩))
        clear hc hca hrd hq0 hq1 hgc
        have hb8:=below_next hb7 hbW8
        have hm9:=h7.below hb8
        have s9:=s7.below hb8
        clear hbW8 hm8 hno7
        go_upto_region 22 with (fail)
        have sC:SlR W8 S.H.ac S.H.cc S.H.ca.length (S.H.ca.flatMap ccL):=hm9.ma.rd.ca
        have sT:=sC.take (sz:=3) hq
        have hcl60:S.H.ca.length ≤ 60:=z7
        have tlen:((S.H.ca.flatMap ccL).take (q * 3)).length = q * 3:=by rw [List.length_take,ccs_len]; omega
        have dlen:((S.H.ca.flatMap ccL).drop (q * 3)).length = (S.H.ca.length - q) * 3:=by rw [List.length_drop,ccs_len]; omega
        refine wp_growPQ 27 [_,.r 1 ((fixR fun _=>True)),_,_,_,_,.v (.slice S.H.ac S.H.ca.length S.H.cc),_,_,.r 9 ((fixR fun _=>True)),_,_,_,.v (.agg #[.int .i64 (F:Int),.int .i64 (I:Int),.int .i64 (j:Int)]),.r 14 ((fixR fun _=>True)),.r 15 ((fixR fun _=>True)),_,_,_,_,.v (.slice S.H.ac S.H.ca.length S.H.cc),_,.r 22 ((fixR fun v => ∃ a e,v = .slice a (S.H.ca.length - q) e ∧ SlR W8 a e (S.H.ca.length - q) ((S.H.ca.flatMap ccL).drop (q * 3)))),.r 23 ((fixR fun _=>True)),_,_,_] (jIns W8 q S.H.ca ⟨(F:Int),(I:Int),(j:Int)⟩) jIns_st (fun y=>jIns_0 y) (Qk jIns_st rfl (all_cons ?_ (Qk jIns_st rfl (Qk jIns_st rfl (Qf jIns_st b 1 rfl rfl (Qf jIns_st b 10 rfl rfl (all_cons ?_ (Qk jIns_st rfl (Qr jIns_st (.slice S.H.ac q S.H.cc) (fun ρ y W hk=>(run_take (W0:=W8) rfl (kx_at rfl hk) (kx_at rfl hk) hq Try.underlying37 cached_size sC).1) rfl rfl (all_cons ?_ (Qk jIns_st rfl (Qk jIns_st rfl (Qk jIns_st rfl (all_cons ?_ (all_cons ?_ (all_cons ?_ (Qk jIns_st rfl (Qk jIns_st rfl (Qf jIns_st b 1 rfl rfl (Qf jIns_st b 10 rfl rfl (all_cons ?_ (Qk jIns_st rfl (all_cons ?_ (all_cons ?_ (Qk jIns_st rfl (Qf jIns_st b 1 rfl rfl (Qf jIns_st b 10 rfl rfl (all_nil)))))))))))))))))))))))))))) (fun _=>rfl) rfl ?_
        ·intro ρ y W L hw hn hLi hLd hb hd
         refine asked_runQ (.slice (some ⟨W.heap.size,0,none⟩) 0 0) (want_free rfl) ?_ (jIns_1 hb) trivial
         simp [execOp,go_sem]
        ·intro ρ y W L hw hn hLi hLd hb hd
         refine askQ jIns_st (fun _ _ h=>h) hb ?_
         have E124:=hw 124 5 rfl
         have h5:y 5 = _:=hd 5 rfl
         refine asked_val (.slice S.H.ac S.H.ca.length S.H.cc) (want_free rfl) (by simp [execOp,go_sem,E124,h5,(hm9.below hb.1).blk.cell,mkC,MW.frs,MW.lst]) rfl
        ·intro ρ y W L hw hn hLi hLd hb hd; have E120:=hw 120 1 rfl; have h1:=hd 1 rfl; have E127:=hw 127 8 rfl; have h8:y 8 = _:=hd 8 rfl
         obtain ⟨g,hg1,hg2⟩:=hb.2.2.2.1 (hLd 1 rfl) hLi
         refine asked_appQ (want_free rfl) (run_app0 _ _ _ rfl W8.heap.size 85 (.agg #[.int .i64 0,.int .i64 0,.int .i64 0]) 3 24 Try.underlying37 cached_info rfl (by decide) g (E120.trans hg1) hg2 S.H.ac q S.H.cc _ (E127.trans h8) sT.nl sT.le tlen (sT.below hb.1).rd (by unfold maxLen; omega) (by omega) hb.1.size) (fun v W1 h=>jIns_9 hb h.1 h.2) (fun _ _ _=>trivial)
        ·intro ρ y W L hw hn hLi hLd hb hd
         refine askQ jIns_st (fun _ _ h=>h) hb ?_
         have E129:=hw 129 10 rfl
         have h10:y 10 = _:=hd 10 rfl
         have E130:=hw 130 11 rfl
         have h11:y 11 = _:=hd 11 rfl
         have E131:=hw 131 12 rfl
         have h12:y 12 = _:=hd 12 rfl
         refine asked_val (.agg #[.int .i64 (F:Int),.int .i64 (I:Int),.int .i64 (j:Int)]) (want_free rfl) (by simp [execOp,go_sem,E129,h10,E130,h11,E131,h12]) rfl
        ·intro ρ y W L hw hn hLi hLd hb hd; have E132:=hw 132 13 rfl; have h13:y 13 = _:=hd 13 rfl
         refine asked_runQ (.slice (some ⟨W.heap.size,0,none⟩) 1 1) (want_free rfl) ?_ (jIns_14 (W':=W.alloc (.cells (ccC ⟨(F:Int),(I:Int),(j:Int)⟩) 85)) hb ((Below.refl _ _).alloc (Nat.le_refl _) _) ⟨Nat.le_refl _,by unfold maxLen; omega,fun e=>(by cases e),RdV.new _ _ _⟩) trivial
         simp [execOp,go_sem,E132.trans h13,ccC]
        ·intro ρ y W L hw hn hLi hLd hb hd; have E128:=hw 128 9 rfl; have h9:=hd 9 rfl; have E133:=hw 133 14 rfl; have h14:=hd 14 rfl
         obtain ⟨a,e,hx1,hx2⟩:=hb.2.2.2.2.2.1 (hLd 14 rfl) hLi
         have hv:=hb.2.2.2.2.1 (hLd 9 rfl) hLi
         refine asked_appQ (want_free rfl) (run_app _ _ _ rfl W8.heap.size 85 (.agg #[.int .i64 0,.int .i64 0,.int .i64 0]) 3 24 Try.underlying37 cached_info rfl (by decide) (y 9) q _ E128 hv a 1 e _ (E133.trans hx1) hx2.nl hx2.le rfl hx2.rd (ccL_one _) (by unfold maxLen; omega) (by omega) hb.1.size) (fun v W1 h=>jIns_15 hb hLi (hLd 9 rfl) h.2.1 h.1) (fun _ _ _=>trivial)
        ·intro ρ y W L hw hn hLi hLd hb hd
         refine askQ jIns_st (fun _ _ h=>h) hb ?_
         have E138:=hw 138 19 rfl
         have h19:y 19 = _:=hd 19 rfl
         refine asked_val (.slice S.H.ac S.H.ca.length S.H.cc) (want_free rfl) (by simp [execOp,go_sem,E138,h19,(hm9.below hb.1).blk.cell,mkC,MW.frs,MW.lst]) rfl
        ·intro ρ y W L hw hn hLi hLd hb hd
         refine askQ jIns_st (fun _ _ h=>h) hb ?_
         have E139:=hw 139 20 rfl
         have h20:y 20 = _:=hd 20 rfl
         have E140:=hw 140 21 rfl
         have h21:y 21 = _:=hd 21 rfl
         exact asked_ex (want_free rfl) (run_drop (W0:=W8) rfl (E139.trans h20) (E140.trans h21) hq Try.underlying37 cached_size (ccs_len _) sC) (fun _ h=>h)
        ·intro ρ y W L hw hn hLi hLd hb hd; have E134:=hw 134 15 rfl; have h15:=hd 15 rfl; have E141:=hw 141 22 rfl; have h22:=hd 22 rfl
         obtain ⟨a,e,hx1,hx2⟩:=h22
         have hv:=hb.2.2.2.2.2.2.1 (hLd 15 rfl) hLi
         refine asked_appQ (want_free rfl) (run_app _ _ _ rfl W8.heap.size 85 (.agg #[.int .i64 0,.int .i64 0,.int .i64 0]) 3 24 Try.underlying37 cached_info rfl (by decide) (y 15) (q + 1) _ E134 hv a (S.H.ca.length - q) e _ (E141.trans hx1) hx2.nl hx2.le dlen (hx2.below hb.1).rd (fun u hu=>ccs_one _ u (List.mem_of_mem_drop hu)) (by unfold maxLen; omega) (by omega) hb.1.size) (fun v W1 h=>jIns_23 hb hLi (hLd 15 rfl) h.2.1 h.1) (fun _ _ _=>trivial)
        intro y W9 hbW9 hRW9
        have hy1:((fixR fun _=>True)).r (y 1) W9:=hRW9 1 (by decide)
        have hy9:((fixR fun _=>True)).r (y 9) W9:=hRW9 9 (by decide)
        have hy14:((fixR fun _=>True)).r (y 14) W9:=hRW9 14 (by decide)
        have hy15:((fixR fun _=>True)).r (y 15) W9:=hRW9 15 (by decide)
        have hy22:((fixR fun v => ∃ a e,v = .slice a (S.H.ca.length - q) e ∧ SlR W8 a e (S.H.ca.length - q) ((S.H.ca.flatMap ccL).drop (q * 3)))).r (y 22) W9:=hRW9 22 (by decide)
        have hy23:((fixR fun _=>True)).r (y 23) W9:=hRW9 23 (by decide)
        clear hRW9
        have hoC:=hbW9.2.2.2.2.2.2.2 rfl
        have hm10:=hm9.below hbW9.1
        have s10:=s9.below hbW9.1
        rw [insert_flat _ _ _ hq] at hoC
        have hlenI:Hid ((S.H.ca.insertIdx q (⟨(F:Int),(I:Int),(j:Int)⟩:Cc)).length = q + 1 + (S.H.ca.length - q)):=Lib.hid (by rw [List.length_insertIdx_of_le_length hq]; omega)
        obtain ⟨a9,c9,hv9,_⟩:=hoC.rd
        rw [hv9] at hoC ⊢
        have hge9:Hid (∀ x,oB a9 = some x → w.heap.size ≤ x):=Lib.hid fun x hx=>Nat.le_trans s9.size (own_oB hoC hx).1
        have hoC:=hoC.mono (Nat.le_trans hm9.bs (Nat.le_refl _))
        clear hv9 hbW9 hm9 s9 sT sC tlen dlen h7 s7
        go_wp2_with (refine wpList_stv rfl _ _ _ rfl b 10 _ [.slice a9 (q + 1 + (S.H.ca.length - q)) c9] rfl rfl rfl _ _ hm10.blk (by show 10 + 1 ≤ 13; omega) (by kernel_rfl) (fun u hu=>by cases List.mem_singleton.1 hu; rfl) ?_)
        intro w11 hb11 hg11
        have hm12:=hm10.setC (l:=S.H.ca.insertIdx q ⟨(F:Int),(I:Int),(j:Int)⟩) (by rw [hlenI.out]; exact hoC) (by rw [hlenI.out]; exact hb11) hg11
        have s12:=s10.put (H':=_) hg11 (.inl rfl) (fun x (hx:kbM b { ((S.lst a7 c7 l7).frs (S.H.m.fs.set j ⟨P2,1,u,d,(F:Int),(I:Int)⟩)) with H:={ ((S.lst a7 c7 l7).frs (S.H.m.fs.set j ⟨P2,1,u,d,(F:Int),(I:Int)⟩)).H with ac:=a9,cc:=c9,ca:=S.H.ca.insertIdx q ⟨(F:Int),(I:Int),(j:Int)⟩ } } x)=>by
         rcases hx with hx | hx
         ·exact .inl (.inl hx)
         ·simp only [klM,List.mem_cons,List.not_mem_nil,or_false] at hx
          rcases hx with hx | hx | hx | hx | hx | hx | hx | hx | hx
          ·exact .inl (.inr (by simp only [klM,List.mem_cons,List.not_mem_nil,or_false]; exact .inl hx))
          ·exact .inl (.inr (by simp only [klM,List.mem_cons,List.not_mem_nil,or_false]; exact .inr (.inl hx)))
          ·exact .inl (.inr (by simp only [klM,List.mem_cons,List.not_mem_nil,or_false]; exact .inr (.inr (.inl hx))))
          ·exact .inl (.inr (by simp only [klM,List.mem_cons,List.not_mem_nil,or_false]; exact .inr (.inr (.inr (.inl hx)))))
          ·exact .inl (.inr (by simp only [klM,List.mem_cons,List.not_mem_nil,or_false]; exact .inr (.inr (.inr (.inr (.inl hx))))))
          ·exact .inl (.inr (by simp only [klM,List.mem_cons,List.not_mem_nil,or_false]; exact .inr (.inr (.inr (.inr (.inr (.inl hx)))))))
          ·exact .inr (hge9.out x hx.symm)
          ·exact .inl (.inr (by simp only [klM,List.mem_cons,List.not_mem_nil,or_false]; exact .inr (.inr (.inr (.inr (.inr (.inr (.inr (.inl hx)))))))))
          ·exact .inl (.inr (by simp only [klM,List.mem_cons,List.not_mem_nil,or_false]; exact .inr (.inr (.inr (.inr (.inr (.inr (.inr (.inr hx))))))))))
        clear hm10 s10 hb11 hg11 hoC
        go_wp2
        go_ret
        have hbd:=hd'.out.cache (X:=⟨P2,1,u,d,(F:Int),(I:Int)⟩) hi'.out hno.out hj' hjr'.out ⟨rfl,rfl,rfl⟩ (by rw [hN'.out]; exact hP2.out.1) hP2.out.2
        refine ⟨j,_,rfl,hm12,s12,⟨rfl,rfl,rfl,rfl,List.length_set,rfl⟩,rfl,?_,.inr ⟨⟨(F:Int),(I:Int),(j:Int)⟩,(List.mem_insertIdx hq).2 (.inl rfl),rfl,rfl,rfl⟩⟩
        unfold putC at hbd
        rw [show atC S.H.ma.ca F I = q from hat.out] at hbd
        exact hbd
      ·have hqi:¬ (q:Int) < (S.H.ca.length:Int):=by omega
       go_upto_region 20 with (fail)
       refine wp_growP 35 [_,_,_,_,_,_,_,_,_,_,_,_,_,_,_,_,_,_,_,_,_,_,_,_,_,_,_,_,_,_,_,_,_,_,.v (.bool false)] (Gk rfl (Gk rfl (Gk rfl (Gf b 1 rfl rfl (Gf b 10 rfl rfl (Gl hm8.blk (V:=.slice S.H.ac S.H.ca.length S.H.cc) (by simp [mkC,MW.frs,MW.lst]) rfl rfl rfl rfl (Gn rfl rfl rfl rfl (Gb (.bool false) (by simp [go_sem,hqi,hql]) rfl rfl rfl rfl rfl (Gk rfl (Gk rfl (Gk rfl (Gk rfl (Gk rfl (Gk rfl (Gk rfl (Gk rfl (Gk rfl (Gk rfl (Gk rfl (Gk rfl (Gk rfl (Gk rfl (Gk rfl (Gk rfl (Gk rfl (Gk rfl (Gk rfl (Gk rfl (Gk rfl (Gk rfl (Gk rfl (Gk rfl (Gk rfl (Gk rfl (Gk rfl (all_nil)))))))))))))))))))))))))))))))))))) (fun _=>rfl) rfl ?_
       intro y W8 hbW8 _
       have hat:Hid (atC S.H.ca F I = q):=Lib.hid (atC_eq hq hno7.out (.inl (by omega)))
       have hb8:=below_next hb7 hbW8
       have hm9:=h7.below hb8
       have s9:=s7.below hb8
       clear hbW8 hm8 hno7
       go_upto_region 22 with (fail)
       have sC:SlR W8 S.H.ac S.H.cc S.H.ca.length (S.H.ca.flatMap ccL):=hm9.ma.rd.ca
       have sT:=sC.take (sz:=3) hq
       have hcl60:S.H.ca.length ≤ 60:=z7
       have tlen:((S.H.ca.flatMap ccL).take (q * 3)).length = q * 3:=by rw [List.length_take,ccs_len]; omega
       have dlen:((S.H.ca.flatMap ccL).drop (q * 3)).length = (S.H.ca.length - q) * 3:=by rw [List.length_drop,ccs_len]; omega
       refine wp_growPQ 27 [_,.r 1 ((fixR fun _=>True)),_,_,_,_,.v (.slice S.H.ac S.H.ca.length S.H.cc),_,_,.r 9 ((fixR fun _=>True)),_,_,_,.v (.agg #[.int .i64 (F:Int),.int .i64 (I:Int),.int .i64 (j:Int)]),.r 14 ((fixR fun _=>True)),.r 15 ((fixR fun _=>True)),_,_,_,_,.v (.slice S.H.ac S.H.ca.length S.H.cc),_,.r 22 ((fixR fun v => ∃ a e,v = .slice a (S.H.ca.length - q) e ∧ SlR W8 a e (S.H.ca.length - q) ((S.H.ca.flatMap ccL).drop (q * 3)))),.r 23 ((fixR fun _=>True)),_,_,_] (jIns W8 q S.H.ca ⟨(F:Int),(I:Int),(j:Int)⟩) jIns_st (fun y=>jIns_0 y) (Qk jIns_st rfl (all_cons ?_ (Qk jIns_st rfl (Qk jIns_st rfl (Qf jIns_st b 1 rfl rfl (Qf jIns_st b 10 rfl rfl (all_cons ?_ (Qk jIns_st rfl (Qr jIns_st (.slice S.H.ac q S.H.cc) (fun ρ y W hk=>(run_take (W0:=W8) rfl (kx_at rfl hk) (kx_at rfl hk) hq Try.underlying37 cached_size sC).1) rfl rfl (all_cons ?_ (Qk jIns_st rfl (Qk jIns_st rfl (Qk jIns_st rfl (all_cons ?_ (all_cons ?_ (all_cons ?_ (Qk jIns_st rfl (Qk jIns_st rfl (Qf jIns_st b 1 rfl rfl (Qf jIns_st b 10 rfl rfl (all_cons ?_ (Qk jIns_st rfl (all_cons ?_ (all_cons ?_ (Qk jIns_st rfl (Qf jIns_st b 1 rfl rfl (Qf jIns_st b 10 rfl rfl (all_nil)))))))))))))))))))))))))))) (fun _=>rfl) rfl ?_
       ·intro ρ y W L hw hn hLi hLd hb hd
        refine asked_runQ (.slice (some ⟨W.heap.size,0,none⟩) 0 0) (want_free rfl) ?_ (jIns_1 hb) trivial
        simp [execOp,go_sem]
       ·intro ρ y W L hw hn hLi hLd hb hd
        refine askQ jIns_st (fun _ _ h=>h) hb ?_
        have E124:=hw 124 5 rfl
        have h5:y 5 = _:=hd 5 rfl
        refine asked_val (.slice S.H.ac S.H.ca.length S.H.cc) (want_free rfl) (by simp [execOp,go_sem,E124,h5,(hm9.below hb.1).blk.cell,mkC,MW.frs,MW.lst]) rfl
       ·intro ρ y W L hw hn hLi hLd hb hd; have E120:=hw 120 1 rfl; have h1:=hd 1 rfl; have E127:=hw 127 8 rfl; have h8:y 8 = _:=hd 8 rfl
        obtain ⟨g,hg1,hg2⟩:=hb.2.2.2.1 (hLd 1 rfl) hLi
        refine asked_appQ (want_free rfl) (run_app0 _ _ _ rfl W8.heap.size 85 (.agg #[.int .i64 0,.int .i64 0,.int .i64 0]) 3 24 Try.underlying37 cached_info rfl (by decide) g (E120.trans hg1) hg2 S.H.ac q S.H.cc _ (E127.trans h8) sT.nl sT.le tlen (sT.below hb.1).rd (by unfold maxLen; omega) (by omega) hb.1.size) (fun v W1 h=>jIns_9 hb h.1 h.2) (fun _ _ _=>trivial)
       ·intro ρ y W L hw hn hLi hLd hb hd
        refine askQ jIns_st (fun _ _ h=>h) hb ?_
        have E129:=hw 129 10 rfl
        have h10:y 10 = _:=hd 10 rfl
        have E130:=hw 130 11 rfl
        have h11:y 11 = _:=hd 11 rfl
        have E131:=hw 131 12 rfl
        have h12:y 12 = _:=hd 12 rfl
        refine asked_val (.agg #[.int .i64 (F:Int),.int .i64 (I:Int),.int .i64 (j:Int)]) (want_free rfl) (by simp [execOp,go_sem,E129,h10,E130,h11,E131,h12]) rfl
       ·intro ρ y W L hw hn hLi hLd hb hd; have E132:=hw 132 13 rfl; have h13:y 13 = _:=hd 13 rfl
        refine asked_runQ (.slice (some ⟨W.heap.size,0,none⟩) 1 1) (want_free rfl) ?_ (jIns_14 (W':=W.alloc (.cells (ccC ⟨(F:Int),(I:Int),(j:Int)⟩) 85)) hb ((Below.refl _ _).alloc (Nat.le_refl _) _) ⟨Nat.le_refl _,by unfold maxLen; omega,fun e=>(by cases e),RdV.new _ _ _⟩) trivial
        simp [execOp,go_sem,E132.trans h13,ccC]
       ·intro ρ y W L hw hn hLi hLd hb hd; have E128:=hw 128 9 rfl; have h9:=hd 9 rfl; have E133:=hw 133 14 rfl; have h14:=hd 14 rfl
        obtain ⟨a,e,hx1,hx2⟩:=hb.2.2.2.2.2.1 (hLd 14 rfl) hLi
        have hv:=hb.2.2.2.2.1 (hLd 9 rfl) hLi
        refine asked_appQ (want_free rfl) (run_app _ _ _ rfl W8.heap.size 85 (.agg #[.int .i64 0,.int .i64 0,.int .i64 0]) 3 24 Try.underlying37 cached_info rfl (by decide) (y 9) q _ E128 hv a 1 e _ (E133.trans hx1) hx2.nl hx2.le rfl hx2.rd (ccL_one _) (by unfold maxLen; omega) (by omega) hb.1.size) (fun v W1 h=>jIns_15 hb hLi (hLd 9 rfl) h.2.1 h.1) (fun _ _ _=>trivial)
       ·intro ρ y W L hw hn hLi hLd hb hd
        refine askQ jIns_st (fun _ _ h=>h) hb ?_
        have E138:=hw 138 19 rfl
        have h19:y 19 = _:=hd 19 rfl
        refine asked_val (.slice S.H.ac S.H.ca.length S.H.cc) (want_free rfl) (by simp [execOp,go_sem,E138,h19,(hm9.below hb.1).blk.cell,mkC,MW.frs,MW.lst]) rfl
       ·intro ρ y W L hw hn hLi hLd hb hd
        refine askQ jIns_st (fun _ _ h=>h) hb ?_
        have E139:=hw 139 20 rfl
        have h20:y 20 = _:=hd 20 rfl
        have E140:=hw 140 21 rfl
        have h21:y 21 = _:=hd 21 rfl
        exact asked_ex (want_free rfl) (run_drop (W0:=W8) rfl (E139.trans h20) (E140.trans h21) hq Try.underlying37 cached_size (ccs_len _) sC) (fun _ h=>h)
       ·intro ρ y W L hw hn hLi hLd hb hd; have E134:=hw 134 15 rfl; have h15:=hd 15 rfl; have E141:=hw 141 22 rfl; have h22:=hd 22 rfl
        obtain ⟨a,e,hx1,hx2⟩:=h22
        have hv:=hb.2.2.2.2.2.2.1 (hLd 15 rfl) hLi
        refine asked_appQ (want_free rfl) (run_app _ _ _ rfl W8.heap.size 85 (.agg #[.int .i64 0,.int .i64 0,.int .i64 0]) 3 24 Try.underlying37 cached_info rfl (by decide) (y 15) (q + 1) _ E134 hv a (S.H.ca.length - q) e _ (E141.trans hx1) hx2.nl hx2.le dlen (hx2.below hb.1).rd (fun u hu=>ccs_one _ u (List.mem_of_mem_drop hu)) (by unfold maxLen; omega) (by omega) hb.1.size) (fun v W1 h=>jIns_23 hb hLi (hLd 15 rfl) h.2.1 h.1) (fun _ _ _=>trivial)
       intro y W9 hbW9 hRW9
       have hy1:((fixR fun _=>True)).r (y 1) W9:=hRW9 1 (by decide)
       have hy9:((fixR fun _=>True)).r (y 9) W9:=hRW9 9 (by decide)
       have hy14:((fixR fun _=>True)).r (y 14) W9:=hRW9 14 (by decide)
       have hy15:((fixR fun _=>True)).r (y 15) W9:=hRW9 15 (by decide)
       have hy22:((fixR fun v => ∃ a e,v = .slice a (S.H.ca.length - q) e ∧ SlR W8 a e (S.H.ca.length - q) ((S.H.ca.flatMap ccL).drop (q * 3)))).r (y 22) W9:=hRW9 22 (by decide)
       have hy23:((fixR fun _=>True)).r (y 23) W9:=hRW9 23 (by decide)
       clear hRW9
       have hoC:=hbW9.2.2.2.2.2.2.2 rfl
       have hm10:=hm9.below hbW9.1
       have s10:=s9.below hbW9.1
       rw [insert_flat _ _ _ hq] at hoC
       have hlenI:Hid ((S.H.ca.insertIdx q (⟨(F:Int),(I:Int),(j:Int)⟩:Cc)).length = q + 1 + (S.H.ca.length - q)):=Lib.hid (by rw [List.length_insertIdx_of_le_length hq]; omega)
       obtain ⟨a9,c9,hv9,_⟩:=hoC.rd
       rw [hv9] at hoC ⊢
       have hge9:Hid (∀ x,oB a9 = some x → w.heap.size ≤ x):=Lib.hid fun x hx=>Nat.le_trans s9.size (own_oB hoC hx).1
       have hoC:=hoC.mono (Nat.le_trans hm9.bs (Nat.le_refl _))
       clear hv9 hbW9 hm9 s9 sT sC tlen dlen h7 s7
       go_wp2_with (refine wpList_stv rfl _ _ _ rfl b 10 _ [.slice a9 (q + 1 + (S.H.ca.length - q)) c9] rfl rfl rfl _ _ hm10.blk (by show 10 + 1 ≤ 13; omega) (by kernel_rfl) (fun u hu=>by cases List.mem_singleton.1 hu; rfl) ?_)
       intro w11 hb11 hg11
       have hm12:=hm10.setC (l:=S.H.ca.insertIdx q ⟨(F:Int),(I:Int),(j:Int)⟩) (by rw [hlenI.out]; exact hoC) (by rw [hlenI.out]; exact hb11) hg11
       have s12:=s10.put (H':=_) hg11 (.inl rfl) (fun x (hx:kbM b { ((S.lst a7 c7 l7).frs (S.H.m.fs.set j ⟨P2,1,u,d,(F:Int),(I:Int)⟩)) with H:={ ((S.lst a7 c7 l7).frs (S.H.m.fs.set j ⟨P2,1,u,d,(F:Int),(I:Int)⟩)).H with ac:=a9,cc:=c9,ca:=S.H.ca.insertIdx q ⟨(F:Int),(I:Int),(j:Int)⟩ } } x)=>by
        rcases hx with hx | hx
        ·exact .inl (.inl hx)
        ·simp only [klM,List.mem_cons,List.not_mem_nil,or_false] at hx
         rcases hx with hx | hx | hx | hx | hx | hx | hx | hx | hx
         ·exact .inl (.inr (by simp only [klM,List.mem_cons,List.not_mem_nil,or_false]; exact .inl hx))
         ·exact .inl (.inr (by simp only [klM,List.mem_cons,List.not_mem_nil,or_false]; exact .inr (.inl hx)))
         ·exact .inl (.inr (by simp only [klM,List.mem_cons,List.not_mem_nil,or_false]; exact .inr (.inr (.inl hx))))
         ·exact .inl (.inr (by simp only [klM,List.mem_cons,List.not_mem_nil,or_false]; exact .inr (.inr (.inr (.inl hx)))))
         ·exact .inl (.inr (by simp only [klM,List.mem_cons,List.not_mem_nil,or_false]; exact .inr (.inr (.inr (.inr (.inl hx))))))
         ·exact .inl (.inr (by simp only [klM,List.mem_cons,List.not_mem_nil,or_false]; exact .inr (.inr (.inr (.inr (.inr (.inl hx)))))))
         ·exact .inr (hge9.out x hx.symm)
         ·exact .inl (.inr (by simp only [klM,List.mem_cons,List.not_mem_nil,or_false]; exact .inr (.inr (.inr (.inr (.inr (.inr (.inr (.inl hx)))))))))
         ·exact .inl (.inr (by simp only [klM,List.mem_cons,List.not_mem_nil,or_false]; exact .inr (.inr (.inr (.inr (.inr (.inr (.inr (.inr hx))))))))))
       clear hm10 s10 hb11 hg11 hoC
       go_wp2
       go_ret
       have hbd:=hd'.out.cache (X:=⟨P2,1,u,d,(F:Int),(I:Int)⟩) hi'.out hno.out hj' hjr'.out ⟨rfl,rfl,rfl⟩ (by rw [hN'.out]; exact hP2.out.1) hP2.out.2
       refine ⟨j,_,rfl,hm12,s12,⟨rfl,rfl,rfl,rfl,List.length_set,rfl⟩,rfl,?_,.inr ⟨⟨(F:Int),(I:Int),(j:Int)⟩,(List.mem_insertIdx hq).2 (.inl rfl),rfl,rfl,rfl⟩⟩
       unfold putC at hbd
       rw [show atC S.H.ma.ca F I = q from hat.out] at hbd
       exact hbd
theorem go_on:∀ {r:List Ar} {q:Ar},areaE q = 0 → srtF q.en r → ∀ n,onA (tidyGo q r) n = onA (q :: r) n
 | [],q,_,_,n=>rfl
 | a :: r,q,hq,h,n=>by
  unfold tidyGo
  split
  ·rename_i hj
   rw [go_on (joins_right hq h.1 hj) (by simpa using h.2.2) n,joins_on hq h.1 hj]
  ·rw [onA_cons,go_on h.1 h.2.2 n,← onA_cons]
theorem go_ok:∀ {r:List Ar} {q:Ar} {p:Option Ar},areaE q = 0 → srtF q.en r → badOn p q = false → okF p (tidyGo q r)
 | [],q,p,hq,_,hb=>⟨hq,hb,trivial⟩
 | a :: r,q,p,hq,h,hb=>by
  unfold tidyGo
  split
  ·rename_i hj
   refine go_ok (joins_right hq h.1 hj) (by simpa using h.2.2) ?_
   cases p with
   | none=>rfl
   | some z=>exact hb
  ·rename_i hj
   exact ⟨hq,hb,go_ok h.1 h.2.2 (bad_some.2 ⟨h.2.1,by simpa using hj⟩)⟩
theorem tidy_on {l:List Ar} {lo:Int} (h:srtF lo l) (n:Int):onA (tidyL l) n = onA l n:=by
 match l,h with
 | [],_=>rfl
 | a :: r,h=>rw [tidyL_cons,go_on h.1 h.2.2]
theorem tidy_ok {l:List Ar} {lo:Int} (h:srtF lo l):okF none (tidyL l):=by
 match l,h with
 | [],_=>trivial
 | a :: r,h=>rw [tidyL_cons]; exact go_ok h.1 h.2.2 rfl
def oneC (o:Option Pg):Array Value:=#[.bool o.isSome,.bool (oR o),.bool (oW o),.bool (oH o),.int .i64 (oF o),.int .i64 (oP o)]
def oneL (o:Option Pg):List Value:=(oneC o).toList
theorem oneL_len (o:Option Pg):(oneL o).length = 6:=rfl
theorem oneL_one (o:Option Pg):∀ u ∈ oneL o,u.oneCell' = true:=by
 intro u hu
 simp only [oneL,oneC,List.mem_cons,List.not_mem_nil,or_false] at hu
 rcases hu with rfl | rfl | rfl | rfl | rfl | rfl <;> rfl
theorem oneC_one (o:Option Pg):(oneC o).all (·.oneCell') = true:=by simp [oneC,Value.oneCell']
def vsC (l:List (Option Pg)):Array Value:=(l.flatMap oneL).toArray
theorem vs_len (l:List (Option Pg)):(l.flatMap oneL).length = l.length * 6:=Pw.flat_len oneL 6 oneL_len l
theorem vsC_size (l:List (Option Pg)):(vsC l).size = l.length * 6:=by
 unfold vsC; rw [List.size_toArray,vs_len]
theorem vsC_one (l:List (Option Pg)):(vsC l).all (·.oneCell') = true:=by
 rw [← Array.all_toList,List.all_eq_true]
 intro u hu
 obtain ⟨o,_,h⟩:=List.mem_flatMap.1 (show u ∈ l.flatMap oneL by simpa [vsC] using hu)
 exact oneL_one o u h
theorem vsC_set (l:List (Option Pg)) (k:Nat) (hk:k < l.length) (x:Option Pg):putAt (vsC l) (k * 6) (oneL x) = vsC (l.set k x):=by
 apply Array.ext_getElem?
 intro i
 by_cases hi:i < l.length * 6
 ·have hq:i / 6 < l.length:=by omega
  have hir:i = i / 6 * 6 + i % 6:=by omega
  have h2:=flat_cell oneL 6 oneL_len (l.set k x) (i / 6) (by simpa using hq) (i % 6) (by omega)
  rw [← hir] at h2
  have h3:=flat_cell oneL 6 oneL_len l (i / 6) hq (i % 6) (by omega)
  rw [← hir] at h3
  have e2:(vsC (l.set k x))[i]? = ((l.set k x).flatMap oneL)[i]?:=by simp [vsC]
  have e3:(vsC l)[i]? = (l.flatMap oneL)[i]?:=by simp [vsC]
  by_cases e:i / 6 = k
  ·have hik:i = k * 6 + i % 6:=by omega
   have hlt:i % 6 < (oneL x).length:=by rw [oneL_len]; omega
   have h1:=putAt_in (oneL x) (vsC l) (k * 6) (i % 6) (oneL x)[i % 6] (by rw [oneL_len,vsC_size]; omega) (List.getElem?_eq_getElem hlt)
   rw [← hik] at h1
   rw [h1,e2,h2]
   simp only [e,List.getElem_set_self]
   exact (List.getElem?_eq_getElem hlt).symm
  ·rw [putAt_out _ _ _ _ (by rw [oneL_len]; omega),e2,h2,e3,h3]
   congr 2
   rw [List.getElem_set_ne (fun h=>e h.symm)]
 ·rw [Array.getElem?_eq_none (by rw [size_putAt,vsC_size]; omega),Array.getElem?_eq_none (by rw [vsC_size,List.length_set]; omega)]
def fC (f:Nat → Option Pg):Array Value:=vsC (pgs f)
theorem fC_size (f:Nat → Option Pg):(fC f).size = 384:=by unfold fC; rw [vsC_size,pgs_len]
theorem fC_set (f:Nat → Option Pg) (k:Nat) (hk:k < 64) (x:Option Pg):putAt (fC f) (k * 6) (oneL x) = fC (fun i=>if i = k then x else f i):=by
 unfold fC
 rw [vsC_set _ _ (by rw [pgs_len]; exact hk),pgs_set]
theorem put_last (cur:Array Value) (o:Nat) (a b c d e x y:Value):putAt (putAt cur o [a,b,c,d,e,x]) (o + 5) [y] = putAt cur o [a,b,c,d,e,y]:=by
 simp [putAt]
theorem one_size:(Try.prog.info? 106).map (·.size) = some 6:=by kernel_rfl
theorem ones_size:(Try.prog.info? 107).map (·.size) = some 384:=by kernel_rfl
theorem ones_any (l:List Ar) (a:Option Addr) (c:Nat) (w:World) (h:RdV w a (l.flatMap arL)) (hl:l.length ≤ 1000) (hok:∀ x ∈ l,areaE x = 0) :
  Calls Try.prog 44 #[.slice a l.length c] w fun r w'=>r = .returned (.agg (fC (onesF l))) ∧ Below w.heap.size w w':=by
 go_enter Try.func44,Try.ntmps44
 go_upto_region 2 with (fail)
 refine abs2 (fun W=>Code.wp _ _ _ _ W) fun W0 hb0 hres0 ho0 hs0 => ?_
 clear hs0
 replace ho0:Blk W0 (w.heap.size + 1) (fC f0) 107:=ho0
 replace hres0:Blk W0 w.heap.size (fC f0) 107:=hres0
 go_upto_region 3 with (fail)
 go_loopw [9] (fun i wr => ∃ k:Nat,k ≤ l.length ∧ i = .int .i64 k ∧ Below w.heap.size w wr ∧ Blk wr (w.heap.size + 1) (fC (onesF (l.take k))) 107 ∧ Blk wr w.heap.size (fC f0) 107) (fun i _=>l.length - (intOf i).toNat)
 case atStart=>exact ⟨0,Nat.zero_le _,rfl,hb0,ho0,hres0⟩
 case round=>
  clear hb0 ho0 hres0
  obtain ⟨k,hk,rfl,hbr,hor,hrr⟩:=hrel
  by_cases hlt:k < l.length
  ·have hnx:=Lib.hid (onesF_next hlt)
   have hA:=areaE_few (hok l[k] (List.getElem_mem _))
   obtain ⟨⟨f1,f2,f3⟩,f4,f5,f6,_,_⟩:=hA
   generalize hF:onesF (l.take k) = F at *
   obtain ⟨b,off,rfl,c0,c1,c2,c3,c4,c5,c6⟩:=ar_at7 (h.below hbr) k hlt
   generalize l[k] = A at *
   go_upto_region 5 with (fail)
   refine abs1 (fun W=>Code.wp _ _ _ _ W) fun W1 hb1 hx1 hs1 => ?_
   clear hs1 c0 c1 c2 c3 c4 c5 c6
   have hbel1:=below_next hbr hb1
   have ho1:=hor.ext hb1
   have hr1:=hrr.ext hb1
   have hgx:w.heap.size + 1 < wr.heap.size:=hor.lt
   clear hbr hor hrr hb1
   obtain ⟨gx,hg⟩:∃ g,g = wr.heap.size:=⟨_,rfl⟩
   rw [← hg] at hx1 hgx ⊢
   clear hg
   obtain ⟨N,hN⟩:∃ N:Nat,A.fr = (N:Int):=⟨A.fr.toNat,by omega⟩
   have hN':=Lib.hid hN
   clear hN
   have hcx:=hx1.cell
   go_upto_region 6 with (fail)
   clear hcx
   go_loopw [6] (fun i wr => ∃ K:Nat,A.fr ≤ (K:Int) ∧ (K:Int) ≤ A.en ∧ i = .int .i64 K ∧ Below w.heap.size w wr ∧ Blk wr gx (arC A) 69 ∧ Blk wr (w.heap.size + 1) (fC (ovr A K F)) 107 ∧ Blk wr w.heap.size (fC f0) 107) (fun i _=>(A.en - intOf i).toNat)
   case atStart=>exact ⟨N,by have:=hN'.out; omega,by have:=hN'.out; omega,by rw [hN'.out],hbel1,hx1,by rw [← hN'.out,ovr_start]; exact ho1,hr1⟩
   case round=>
    clear hbel1 hx1 ho1 hr1
    obtain ⟨K,hK0,hK1,rfl,hbr,hx,ho,hr⟩:=hrel
    have hcx:=hx.cell
    unfold arC at hcx
    by_cases hKe:(K:Int) < A.en
    ·have hK64:K < 64:=by omega
     have hK64i:(K:Int) < 64:=by omega
     have hfit:Hid (K * 6 + 6 ≤ (fC (ovr A K F)).size):=Lib.hid (by rw [fC_size]; omega)
     have hwa:IntKind.i64.wrap (A.ba + (K:Int)) = A.ba + (K:Int):=IntWalk.i64_in _ (by omega)
     have hwb:IntKind.i64.wrap (A.ba + (K:Int) - A.fr) = A.ba + (K:Int) - A.fr:=IntWalk.i64_in _ (by omega)
     have hfin:Hid (∀ q:Int,q = (if 0 ≤ A.fi then A.ba + (K:Int) - A.fr else 0) → putAt (fC (ovr A K F)) (K * 6) [.bool true,.bool A.rd,.bool A.wr,.bool A.sh,.int .i64 A.fi,.int .i64 q] = fC (ovr A ((K:Int) + 1) F)):=Lib.hid (fun q hq=>by
      rw [← ovr_next hK0,← fC_set _ K hK64,hq]; rfl)
     go_upto_region 9 with (refine wpList_st rfl _ _ _ rfl (w.heap.size + 1) (K * 6) #[.bool true,.bool A.rd,.bool A.wr,.bool A.sh,.int .i64 A.fi,.int .i64 0] rfl rfl _ _ ho hfit.out one_size (by simp [Value.oneCell']) ?_)
     intro W2 ho2 hgr2
     have hbel2:Below w.heap.size w W2:=hbr.grown hgr2 hbr.size (fun k hk=>by cases hk; omega)
     have hx2:Blk W2 gx (arC A) 69:=hx.grown hgr2 (fun e=>by have:=Option.some.inj e; omega)
     have hr2:Blk W2 w.heap.size (fC f0) 107:=hr.grown hgr2 (fun e=>by have:=Option.some.inj e; omega)
     clear hbr hx ho hr hgr2 hcx
     have hcx:=hx2.cell
     unfold arC at hcx
     by_cases hfi:0 ≤ A.fi
     ·go_upto_region 7 with (refine wpList_stv rfl _ _ _ rfl (w.heap.size + 1) (K * 6 + 5) (.int .i64 (A.ba + (K:Int) - A.fr)) [.int .i64 (A.ba + (K:Int) - A.fr)] rfl rfl rfl _ _ ho2 (by rw [size_putAt]; exact hfit.out) int_size (by simp [Value.oneCell']) ?_)
      intro W3 ho3 hgr3
      have hbel3:Below w.heap.size w W3:=hbel2.grown hgr3 hbel2.size (fun k hk=>by cases hk; omega)
      have hx3:Blk W3 gx (arC A) 69:=hx2.grown hgr3 (fun e=>by have:=Option.some.inj e; omega)
      have hr3:Blk W3 w.heap.size (fC f0) 107:=hr2.grown hgr3 (fun e=>by have:=Option.some.inj e; omega)
      have ho4:Blk W3 (w.heap.size + 1) (fC (ovr A ((K:Int) + 1) F)) 107:=by
       rw [← hfin.out _ (by rw [if_pos hfi]),← put_last]; exact ho3
      clear hbel2 hx2 ho2 hr2 ho3 hgr3 hcx hfin
      go_wp2
      go_roundw
      case rel=>exact ⟨K + 1,by omega,by omega,by go_num,hbel3,hx3,ho4,hr3⟩
      case measure=>simp [intOf]; omega
     ·have ho4:Blk W2 (w.heap.size + 1) (fC (ovr A ((K:Int) + 1) F)) 107:=by
       rw [← hfin.out 0 (by rw [if_neg hfi])]; exact ho2
      clear ho2 hfin
      go_wp2
      go_roundw
      case rel=>exact ⟨K + 1,by omega,by omega,by go_num,hbel2,hx2,ho4,hr2⟩
      case measure=>simp [intOf]; omega
    ·have hKA:(K:Int) = A.en:=by omega
     have ho4:Blk wr (w.heap.size + 1) (fC (onesF (l.take (k + 1)))) 107:=by
      rw [hnx.out,← hKA]; exact ho
     clear ho hKA
     go_wp2
     go_roundw
     case rel=>exact ⟨k + 1,by omega,by go_num,hbr,ho4,hr⟩
     case measure=>simp [intOf]; omega
  ·have hkl:k = l.length:=by omega
   subst hkl
   rw [List.take_length] at hor
   have hs384:Hid ((fC (onesF l)).size = 384):=Lib.hid (fC_size _)
   have hr384:Hid ((fC f0).size = 384):=Lib.hid (fC_size _)
   have hone:(fC (onesF l)).all (·.oneCell') = true:=vsC_one _
   go_wp2_with (first | (refine wpList_ld rfl 107 (.tmp 3) rfl (w.heap.size + 1) 0 rfl (fC (onesF l)).toList hor.rd _ Try.underlying107 rfl (by rw [Array.length_toList,hs384.out]; exact ones_size) ?_) | (refine wpList_stw rfl _ (.tmp 2) (.tmp 46) rfl w.heap.size (fC (onesF l)) rfl rfl _ _ hrr (by rw [hs384.out,hr384.out]) (by rw [hs384.out]; exact ones_size) hone ?_))
   intro w5 hr5 hgr5
   have hbel5:Below w.heap.size w w5:=hbr.grown hgr5 hbr.size (fun k hk=>by cases hk; omega)
   go_wp2
   refine bodyPost_ret (v:=.agg (fC (onesF l))) (results_c Try.results44 _ _ w.heap.size _ _ _ rfl hr5 Try.underlying107 rfl (by rw [hs384.out]; exact ones_size)) rfl ?_
   exact ⟨rfl,hbel5⟩
theorem warea_any (a:Ar) (w:World):Calls Try.prog 105 #[.agg (arC a)] w fun r w'=>r = .returned (.int .i64 (areaE a)) ∧ Below w.heap.size w w':=by
 unfold arC
 go_enter Try.func105,Try.ntmps105
 go_upto_region 1 with (fail)
 refine abs1 (fun W=>Code.wp _ _ _ _ W) fun W0 hb0 hx0 hs0 => ?_
 clear hs0
 have hcx:=hx0.cell
 by_cases g1:a.fr < 0
 ·have hz:Hid (areaE a = 3):=Lib.hid (by unfold areaE; rw [if_pos (by omega)])
  go_wp2
  go_ret
  exact ⟨ret_int hz.out.symm,hb0⟩
 ·by_cases g2:64 < a.en
  ·have hz:Hid (areaE a = 3):=Lib.hid (by unfold areaE; rw [if_pos (by omega)])
   go_wp2
   go_ret
   exact ⟨ret_int hz.out.symm,hb0⟩
  ·by_cases g3:a.en ≤ a.fr
   ·have hz:Hid (areaE a = 3):=Lib.hid (by unfold areaE; rw [if_pos (by omega)])
    go_wp2
    go_ret
    exact ⟨ret_int hz.out.symm,hb0⟩
   ·by_cases g4:a.fi < -1
    ·have hz:Hid (areaE a = 3):=Lib.hid (by unfold areaE; rw [if_pos (by omega)])
     go_wp2
     go_ret
     exact ⟨ret_int hz.out.symm,hb0⟩
    ·by_cases g5:4 < a.fi
     ·have hz:Hid (areaE a = 3):=Lib.hid (by unfold areaE; rw [if_pos (by omega)])
      go_wp2
      go_ret
      exact ⟨ret_int hz.out.symm,hb0⟩
     ·by_cases g6:a.ba < 0
      ·have hz:Hid (areaE a = 3):=Lib.hid (by unfold areaE; rw [if_pos (by omega)])
       go_wp2
       go_ret
       exact ⟨ret_int hz.out.symm,hb0⟩
      ·have hn1:¬ (a.fr < 0 ∨ a.en ≤ a.fr ∨ 64 < a.en ∨ a.fi < -1 ∨ 5 ≤ a.fi ∨ a.ba < 0):=by omega
       have hw1:IntKind.i64.wrap (a.en - a.fr) = a.en - a.fr:=IntWalk.i64_in _ (by omega)
       have hw2:IntKind.i64.wrap (12 - (a.en - a.fr)) = 12 - (a.en - a.fr):=IntWalk.i64_in _ (by omega)
       by_cases f1:a.fi = -1
       ·have f1' : (a.fi == -1) = true:=by simpa using f1
        by_cases f2:a.ba = 0
        ·have f2' : ¬ 0 < a.ba:=by omega
         cases f3:a.sh
         ·have hz:Hid (areaE a = 0):=Lib.hid (by unfold areaE; rw [if_neg hn1,if_neg (by rw [f3]; simp; omega)])
          have f4:¬ 0 ≤ a.fi:=by omega
          clear hn1 f1 f2
          rw [f3] at hcx
          go_wp2
          go_ret
          exact ⟨ret_int hz.out.symm,hb0⟩
         ·have hz:Hid (areaE a = 7):=Lib.hid (by unfold areaE; rw [if_neg hn1,if_pos (.inl ⟨by omega,.inr f3⟩)])
          clear hn1 f1 f2
          rw [f3] at hcx
          go_wp2
          go_ret
          exact ⟨ret_int hz.out.symm,hb0⟩
        ·have hz:Hid (areaE a = 7):=Lib.hid (by unfold areaE; rw [if_neg hn1,if_pos (.inl ⟨by omega,.inl f2⟩)])
         have f2' : 0 < a.ba:=by omega
         clear hn1 f1 f2
         go_wp2
         go_ret
         exact ⟨ret_int hz.out.symm,hb0⟩
       ·have f1' : 0 ≤ a.fi:=by omega
        have f1'' : (a.fi == -1) = false:=by simpa using f1
        by_cases f2:12 - (a.en - a.fr) < a.ba
        ·have hz:Hid (areaE a = 7):=Lib.hid (by unfold areaE; rw [if_neg hn1,if_pos (.inr ⟨f1',f2⟩)])
         clear hn1 f1
         go_wp2
         go_ret
         exact ⟨ret_int hz.out.symm,hb0⟩
        ·have hz:Hid (areaE a = 0):=Lib.hid (by unfold areaE; rw [if_neg hn1,if_neg (by omega)])
         clear hn1 f1
         go_wp2
         go_ret
         exact ⟨ret_int hz.out.symm,hb0⟩
theorem eqOne (p q:Pg) (b:Bool) (h:(p == q) = b) (W:World):(Op.equalIn 10000 106 (.agg #[.bool true,.bool p.rd,.bool p.wr,.bool p.sh,.int .i64 p.fi,.int .i64 p.pg]) (.agg #[.bool true,.bool q.rd,.bool q.wr,.bool q.sh,.int .i64 q.fi,.int .i64 q.pg])).run Try.prog W = .ok b W:=by
 rw [← h,pg_beq]
 by_cases h3:p.rd = q.rd
 ·by_cases h4:p.wr = q.wr
  ·by_cases h5:p.sh = q.sh
   ·by_cases h6:(p.fi == q.fi) = true
    ·by_cases h7:p.pg = q.pg <;> simp [go_sem,h3,h4,h5,h6,h7]
    ·simp [go_sem,h3,h4,h5,h6]
   ·simp [go_sem,h3,h4,h5]
  ·simp [go_sem,h3,h4]
 ·simp [go_sem,h3]
theorem eqOne0 (q:Pg) (x:Int) (W:World):(Op.equalIn 10000 106 (.agg #[.bool false,.bool false,.bool false,.bool false,.int .i64 0,.int .i64 x]) (.agg #[.bool true,.bool q.rd,.bool q.wr,.bool q.sh,.int .i64 q.fi,.int .i64 q.pg])).run Try.prog W = .ok false W:=by
 simp [go_sem]
theorem fC_part (f:Nat → Option Pg) (k:Nat) (hk:k < 64):(fC f).extract (k * 6) (k * 6 + 6) = oneC (f k):=by
 apply Array.ext_getElem?
 intro i
 by_cases hi:i < 6
 ·rw [Array.getElem?_extract,if_pos (by rw [fC_size]; omega)]
  have:=flat_cell oneL 6 oneL_len (pgs f) k (by rw [pgs_len]; exact hk) i hi
  have e:(fC f)[k * 6 + i]? = ((pgs f).flatMap oneL)[k * 6 + i]?:=by simp [fC,vsC]
  have e2:(pgs f)[k]'(by rw [pgs_len]; exact hk) = f k:=by simp [pgs]
  rw [e,this,e2]
  simp [oneL]
 ·rw [Array.getElem?_eq_none (by simp; omega),Array.getElem?_eq_none (by simp [oneC]; omega)]
theorem fC_cell (f:Nat → Option Pg) (k j:Nat) (hk:k < 64) (u:Value) (h:(oneL (f k))[j]? = some u) (hj:j < 6):(fC f)[k * 6 + j]? = some u:=by
 have:=flat_cell oneL 6 oneL_len (pgs f) k (by rw [pgs_len]; exact hk) j hj
 have e:(fC f)[k * 6 + j]? = ((pgs f).flatMap oneL)[k * 6 + j]?:=by simp [fC,vsC]
 have e2:(pgs f)[k]'(by rw [pgs_len]; exact hk) = f k:=by simp [pgs]
 rw [e,this,e2]
 exact h
theorem idx_one (f:Nat → Option Pg) (k:Nat) (hk:k < 64) (o:Option Pg) (ho:f k = o) (w:World):(Instr.index 107 (.agg (fC f)) (.int .i64 k)).run Try.prog w = .ok (.agg (oneC o)) w:=
 run_index_agg' Try.underlying107 Try.underlying106 rfl one_size _ k _ hk (by rw [← ho]; exact fC_part f k hk) _ w
theorem wpList_eqS {P:Program} {ops:Array Oper} {rest:List Oper} {o:Oper} {a:Act} {w:World} {Q:Exit → Act → World → Prop} (hg:o.guard = none) (t t' : TypeId) (x y:Operand) (ho:o.op = .binOp .eql t x y t') (vx vy:Value) (hx:a.eval x = vx) (hy:a.eval y = vy) (B:Bool)
  (hr:(do eqGuard .eql t x y vx vy; binOp .eql t vx vy:Sem Value).run P w = .ok (.bool B) w) (h:wpList P ops Q rest (a.put o.dst (.bool B)) w):wpList P ops Q (o :: rest) a w:=
 wpList_plain hg fun K hK=>by
  unfold Oper.wp
  rw [run_bin ho hx hy hr]
  exact hK _ _ h
theorem eqOneR (p q:Pg) (b:Bool) (h:(p == q) = b) (x y:Operand) (W:World):(do eqGuard .eql 106 x y (.agg #[.bool true,.bool p.rd,.bool p.wr,.bool p.sh,.int .i64 p.fi,.int .i64 p.pg]) (.agg #[.bool true,.bool q.rd,.bool q.wr,.bool q.sh,.int .i64 q.fi,.int .i64 q.pg]); binOp .eql 106 (.agg #[.bool true,.bool p.rd,.bool p.wr,.bool p.sh,.int .i64 p.fi,.int .i64 p.pg]) (.agg #[.bool true,.bool q.rd,.bool q.wr,.bool q.sh,.int .i64 q.fi,.int .i64 q.pg]):Sem Value).run Try.prog W = .ok (.bool b) W:=by
 have hE:=eqOne p q b h
 simp [go_sem,hE]
theorem eqOneR0 (q:Pg) (z:Int) (x y:Operand) (W:World):(do eqGuard .eql 106 x y (.agg #[.bool false,.bool false,.bool false,.bool false,.int .i64 0,.int .i64 z]) (.agg #[.bool true,.bool q.rd,.bool q.wr,.bool q.sh,.int .i64 q.fi,.int .i64 q.pg]); binOp .eql 106 (.agg #[.bool false,.bool false,.bool false,.bool false,.int .i64 0,.int .i64 z]) (.agg #[.bool true,.bool q.rd,.bool q.wr,.bool q.sh,.int .i64 q.fi,.int .i64 q.pg]):Sem Value).run Try.prog W = .ok (.bool false) W:=by
 have hE:=eqOne0 q z
 simp [go_sem,hE]
theorem areas_any (f:Nat → Option Pg) (w:World) (hf:∀ i p,f i = some p → 0 ≤ p.pg ∧ p.pg ≤ 100) :
  Calls Try.prog 118 #[.agg (fC f)] w fun r w' => ∃ v,r = .returned v ∧ Own w' w.heap.size 69 7 v (toA f 64).length ((toA f 64).flatMap arL) ∧ Below w.heap.size w w':=by
 have hs384:=Lib.hid (fC_size f)
 go_enter Try.func118,Try.ntmps118
 go_upto_region 1 with (fail)
 refine abs1 (fun W=>Code.wp _ _ _ _ W) fun W0 hb0 hx0 hs0 => ?_
 clear hs0
 go_upto_region 3 with (refine wpList_ldg _ _ rfl _ 0 rfl rfl _ hx0.rd _ Try.underlying107 rfl (by rw [Array.length_toList,hs384.out]; exact ones_size) ?_)
 go_loopw [9,3] (fun i u wr => ∃ k:Nat,k ≤ 64 ∧ i = .int .i64 k ∧ Below w.heap.size w wr ∧ Blk wr w.heap.size (fC f) 107 ∧ Own wr w.heap.size 69 7 u (toA f k).length ((toA f k).flatMap arL)) (fun i _ _=>64 - (intOf i).toNat)
 case atStart=>exact ⟨0,Nat.zero_le _,rfl,hb0,hx0,by simpa [toA] using Own.nil _ _ _ _⟩
 case round=>
  clear hb0 hx0
  obtain ⟨k,hk,rfl,hbel,hbx,hown⟩:=hrel
  by_cases hlt:k < 64
  ·have hlti:(k:Int) < 64:=by omega
   have htl:=toA_len f k
   cases hfk:f k with
   | none=>
    have hix:=idx_one f k hlt none hfk
    unfold oneC oR oW oH oF oP at hix
    have hst:=Lib.hid (toA_none hfk)
    go_upto_region 5 with (fail)
    refine abs1 (fun W=>Code.wp _ _ _ _ W) fun W1 hb1 hx1 hs1 => ?_
    have hcx:=hx1.cell
    have hbel1:=below_next hbel hb1
    have hbx1:=hbx.ext hb1
    have hown1:=hown.below hb1
    clear hs1 hb1 hbel hbx hown
    rw [← hst.out] at hown1
    go_wp2
    go_roundw
    case rel=>exact ⟨k + 1,by omega,by go_num,hbel1,hbx1,hown1⟩
    case measure=>simp [intOf]; omega
   | some p=>
    have hix:=idx_one f k hlt (some p) hfk
    unfold oneC oR oW oH oF oP at hix
    go_upto_region 5 with (fail)
    refine abs1 (fun W=>Code.wp _ _ _ _ W) fun W1 hb1 hx1 hs1 => ?_
    have hbel:=below_next hbel hb1
    have hbx:=hbx.ext hb1
    have hown:=hown.below hb1
    clear hs1 hb1
    obtain ⟨gx,hgx⟩:∃ g,g = wr.heap.size:=⟨_,rfl⟩
    rw [← hgx] at hx1 ⊢
    clear hgx
    generalize hacc:toA f k = acc at *
    obtain ⟨au,cu,rfl,_⟩:=hown.rd
    have hcx:=hx1.cell
    have hwk:IntKind.i64.wrap ((k:Int) + 1) = (k:Int) + 1:=IntWalk.i64_in _ (by omega)
    by_cases hk0:k = 0
    ·have hs0:stepOn f k p = false:=by rw [hk0]; rfl
     have hst:Hid (toA f (k + 1) = acc ++ [oneAr k p]):=Lib.hid (by rw [toA_new hfk hs0,hacc])
     have hk0i:¬ (0:Int) < (k:Int):=by omega
     have hk0n:¬ 0 < k:=by omega
     clear hk0 hs0 hfk hacc
     go_upto_region 14 with (fail)
     go_wp2_with (at_builtin; refine wpList_app rfl _ _ 60 rfl w.heap.size 69 _ 7 40 Try.underlying60 area_info rfl (by decide) _ acc.length (acc.flatMap arL) rfl (hown.alloc _) (some ⟨W1.heap.size,0,none⟩) 1 1 (arL (oneAr k p)) rfl (fun h=>(by cases h)) (Nat.le_refl _) rfl (RdV.new _ (arC (oneAr k p)) _) (fun u hu=>areas_one [oneAr k p] u (by simpa using hu)) (by unfold maxLen; omega) (by omega) (le_alloc' hbel.size _) ?_)
     intro v W6 hown6 hgr6
     have hbel6:Below w.heap.size w W6:=(hbel.alloc hbel.size _).grown hgr6 (le_alloc' hbel.size _) (hown.alloc (.cells (arC (oneAr k p)) 69)).ge
     have hbx6:Blk W6 w.heap.size (fC f) 107:=blk_own (hbx.alloc (.cells (arC (oneAr k p)) 69)) (hown.alloc (.cells (arC (oneAr k p)) 69)) (by decide) hgr6
     have hown7:Own W6 w.heap.size 69 7 v (toA f (k + 1)).length ((toA f (k + 1)).flatMap arL):=by
      rw [hst.out,List.flatMap_append,List.length_append]; simpa using hown6
     clear hown6 hgr6
     go_wp2
     go_roundw
     case rel=>exact ⟨k + 1,by omega,by go_num,hbel6,hbx6,hown7⟩
     case measure=>simp [intOf]; omega
    ·obtain ⟨m,hm⟩:∃ m,k = m + 1:=⟨k - 1,by omega⟩
     have hk0i:(0:Int) < (k:Int):=by omega
     have hk0n:0 < k:=by omega
     have hwm:IntKind.i64.wrap ((k:Int) - 1) = (m:Int):=by rw [IntWalk.i64_in _ (by omega)]; omega
     have hm64:m < 64:=by omega
     have hm64i:(m:Int) < 64:=by omega
     have hm1:∀ z,stepOn f k z = (match f m with | some q=>nextPg z q == z | none=>false):=fun z=>by subst hm; rfl
     have hcell:∀ j u,(oneL (f m))[j]? = some u → j < 6 → W1.cell? ⟨w.heap.size,m * 6 + j,none⟩ = some u:=fun j u h hj=>by rw [hbx.cell]; exact fC_cell f m j hm64 u h hj
     have hmm:=Lib.hid hm
     clear hm hk0
     cases hfm:f m with
     | none=>
      have hs0:stepOn f k p = false:=by rw [hm1,hfm]
      have hst:Hid (toA f (k + 1) = acc ++ [oneAr k p]):=Lib.hid (by rw [toA_new hfk hs0,hacc])
      rw [hfm] at hcell
      have d0:=hcell 0 _ rfl (by decide)
      have d1:=hcell 1 _ rfl (by decide)
      have d2:=hcell 2 _ rfl (by decide)
      have d3:=hcell 3 _ rfl (by decide)
      have d4:=hcell 4 _ rfl (by decide)
      have d5:=hcell 5 _ rfl (by decide)
      simp only [Nat.add_zero,Option.isSome,oR,oW,oH,oF,oP] at d0 d1 d2 d3 d4 d5
      clear hm1 hcell hs0 hfk hacc
      have hw1p:IntKind.i64.wrap (0 + 1) = 1:=by rw [IntWalk.i64_in _ (by omega)]; try rfl
      go_upto_region 9 with (fail)
      refine abs1 (fun W=>Code.wp _ _ _ _ W) fun W2 hb2 hy2 hs2 => ?_
      have hbel:=below_next hbel hb2
      have hbx2:=hbx.ext hb2
      have hown2:=hown.below hb2
      have hx2:=hx1.ext hb2
      have hgxy:gx < W1.heap.size:=hx1.lt
      have hgy:w.heap.size < W1.heap.size:=hbx.lt
      have hgB:=hbel.size
      clear hs2 hb2 hbx hown hx1 hcx d0 d1 d2 d3 d4 d5
      have hcx:=hx2.cell
      by_cases hfi:0 ≤ p.fi
      ·obtain ⟨gy,hgyE⟩:∃ g,g = W1.heap.size:=⟨_,rfl⟩
       rw [← hgyE] at hy2 hgxy hgy ⊢
       clear hgyE
       have hcy:=hy2.cell
       go_upto_region 11 with (refine wpList_stv rfl _ _ _ rfl gy 5 (.int .i64 (1)) [.int .i64 (1)] rfl rfl rfl _ _ hy2 (by simp) int_size (by simp [Value.oneCell']) ?_)
       intro W3 hy3 hgr3
       have hy4:Blk W3 gy #[.bool false,.bool (false),.bool (false),.bool (false),.int .i64 (0),.int .i64 (1)] 106:=hy3
       have hbel:=hbel.grown hgr3 hbel.size (fun k hk=>by cases hk; omega)
       have hbx3:Blk W3 w.heap.size (fC f) 107:=hbx2.grown hgr3 (fun e=>by have:=Option.some.inj e; omega)
       have hx3:Blk W3 gx #[.bool true,.bool p.rd,.bool p.wr,.bool p.sh,.int .i64 p.fi,.int .i64 p.pg] 106:=hx2.grown hgr3 (fun e=>by have:=Option.some.inj e; omega)
       have hown:=own_keep hown2 hy2 (by decide) hgr3
       have hbx:=hbx3
       clear hy2 hy3 hbx2 hx2 hown2 hgr3 hcx hcy hbx3 hgB
       have hE:=eqOneR0 p 1
       go_upto_region 12 with (first | (refine wpList_ldg _ _ rfl _ 0 rfl rfl _ hy4.rd _ Try.underlying106 rfl one_size ?_) | (refine wpList_ldg _ _ rfl _ 0 rfl rfl _ hx3.rd _ Try.underlying106 rfl one_size ?_) | (refine wpList_eqS rfl _ _ _ _ rfl _ _ rfl rfl _ (hE _ _ _) ?_))
       clear hE hy4
       have hcx:=hx3.cell
       go_upto_region 14 with (fail)
       go_wp2_with (at_builtin; refine wpList_app rfl _ _ 60 rfl w.heap.size 69 _ 7 40 Try.underlying60 area_info rfl (by decide) _ acc.length (acc.flatMap arL) rfl (hown.alloc _) (some ⟨W3.heap.size,0,none⟩) 1 1 (arL (oneAr k p)) rfl (fun h=>(by cases h)) (Nat.le_refl _) rfl (RdV.new _ (arC (oneAr k p)) _) (fun u hu=>areas_one [oneAr k p] u (by simpa using hu)) (by unfold maxLen; omega) (by omega) (le_alloc' hbel.size _) ?_)
       intro v W6 hown6 hgr6
       have hbel6:Below w.heap.size w W6:=(hbel.alloc hbel.size _).grown hgr6 (le_alloc' hbel.size _) (hown.alloc (.cells (arC (oneAr k p)) 69)).ge
       have hbx6:Blk W6 w.heap.size (fC f) 107:=blk_own (hbx.alloc (.cells (arC (oneAr k p)) 69)) (hown.alloc (.cells (arC (oneAr k p)) 69)) (by decide) hgr6
       have hown7:Own W6 w.heap.size 69 7 v (toA f (k + 1)).length ((toA f (k + 1)).flatMap arL):=by
        rw [hst.out,List.flatMap_append,List.length_append]; simpa using hown6
       clear hown6 hgr6
       go_wp2
       go_roundw
       case rel=>exact ⟨k + 1,by omega,by go_num,hbel6,hbx6,hown7⟩
       case measure=>simp [intOf]; omega
      ·have hbx:=hbx2
       have hown:=hown2
       clear hbx2 hown2
       have hfi' : ¬ 0 ≤ p.fi:=hfi
       have hE:=eqOneR0 p 0
       go_upto_region 12 with (first | (refine wpList_ldg _ _ rfl _ 0 rfl rfl _ hy2.rd _ Try.underlying106 rfl one_size ?_) | (refine wpList_ldg _ _ rfl _ 0 rfl rfl _ hx2.rd _ Try.underlying106 rfl one_size ?_) | (refine wpList_eqS rfl _ _ _ _ rfl _ _ rfl rfl _ (hE _ _ _) ?_))
       clear hE hy2
       have hcx:=hx2.cell
       go_upto_region 14 with (fail)
       go_wp2_with (at_builtin; refine wpList_app rfl _ _ 60 rfl w.heap.size 69 _ 7 40 Try.underlying60 area_info rfl (by decide) _ acc.length (acc.flatMap arL) rfl (hown.alloc _) (some ⟨W2.heap.size,0,none⟩) 1 1 (arL (oneAr k p)) rfl (fun h=>(by cases h)) (Nat.le_refl _) rfl (RdV.new _ (arC (oneAr k p)) _) (fun u hu=>areas_one [oneAr k p] u (by simpa using hu)) (by unfold maxLen; omega) (by omega) (le_alloc' hbel.size _) ?_)
       intro v W6 hown6 hgr6
       have hbel6:Below w.heap.size w W6:=(hbel.alloc hbel.size _).grown hgr6 (le_alloc' hbel.size _) (hown.alloc (.cells (arC (oneAr k p)) 69)).ge
       have hbx6:Blk W6 w.heap.size (fC f) 107:=blk_own (hbx.alloc (.cells (arC (oneAr k p)) 69)) (hown.alloc (.cells (arC (oneAr k p)) 69)) (by decide) hgr6
       have hown7:Own W6 w.heap.size 69 7 v (toA f (k + 1)).length ((toA f (k + 1)).flatMap arL):=by
        rw [hst.out,List.flatMap_append,List.length_append]; simpa using hown6
       clear hown6 hgr6
       go_wp2
       go_roundw
       case rel=>exact ⟨k + 1,by omega,by go_num,hbel6,hbx6,hown7⟩
       case measure=>simp [intOf]; omega
     | some q=>
      have hqb:=hf m q hfm
      have hstp0:=hm1 p
      rw [hfm] at hstp0 hcell
      simp only [] at hstp0
      have d0:=hcell 0 _ rfl (by decide)
      have d1:=hcell 1 _ rfl (by decide)
      have d2:=hcell 2 _ rfl (by decide)
      have d3:=hcell 3 _ rfl (by decide)
      have d4:=hcell 4 _ rfl (by decide)
      have d5:=hcell 5 _ rfl (by decide)
      simp only [Nat.add_zero,Option.isSome,oR,oW,oH,oF,oP] at d0 d1 d2 d3 d4 d5
      generalize hBe:(nextPg p q == p) = B at hstp0
      have hstp:=Lib.hid hstp0
      clear hm1 hcell hstp0
      have hN1:0 ≤ p.fi → ((⟨q.rd,q.wr,q.sh,q.fi,q.pg + 1⟩:Pg) == p) = B:=fun h=>by rw [← hBe]; unfold nextPg; rw [if_pos h]
      have hN0:¬ 0 ≤ p.fi → (q == p) = B:=fun h=>by rw [← hBe]; unfold nextPg; rw [if_neg h]
      clear hBe
      have hw1p:IntKind.i64.wrap (q.pg + 1) = (q.pg + 1):=by rw [IntWalk.i64_in _ (by omega)]; try rfl
      go_upto_region 9 with (fail)
      refine abs1 (fun W=>Code.wp _ _ _ _ W) fun W2 hb2 hy2 hs2 => ?_
      have hbel:=below_next hbel hb2
      have hbx2:=hbx.ext hb2
      have hown2:=hown.below hb2
      have hx2:=hx1.ext hb2
      have hgxy:gx < W1.heap.size:=hx1.lt
      have hgy:w.heap.size < W1.heap.size:=hbx.lt
      have hgB:=hbel.size
      clear hs2 hb2 hbx hown hx1 hcx d0 d1 d2 d3 d4 d5
      have hcx:=hx2.cell
      by_cases hfi:0 ≤ p.fi
      ·obtain ⟨gy,hgyE⟩:∃ g,g = W1.heap.size:=⟨_,rfl⟩
       rw [← hgyE] at hy2 hgxy hgy ⊢
       clear hgyE
       have hcy:=hy2.cell
       go_upto_region 11 with (refine wpList_stv rfl _ _ _ rfl gy 5 (.int .i64 ((q.pg + 1))) [.int .i64 ((q.pg + 1))] rfl rfl rfl _ _ hy2 (by simp) int_size (by simp [Value.oneCell']) ?_)
       intro W3 hy3 hgr3
       have hy4:Blk W3 gy #[.bool true,.bool (q.rd),.bool (q.wr),.bool (q.sh),.int .i64 (q.fi),.int .i64 ((q.pg + 1))] 106:=hy3
       have hbel:=hbel.grown hgr3 hbel.size (fun k hk=>by cases hk; omega)
       have hbx3:Blk W3 w.heap.size (fC f) 107:=hbx2.grown hgr3 (fun e=>by have:=Option.some.inj e; omega)
       have hx3:Blk W3 gx #[.bool true,.bool p.rd,.bool p.wr,.bool p.sh,.int .i64 p.fi,.int .i64 p.pg] 106:=hx2.grown hgr3 (fun e=>by have:=Option.some.inj e; omega)
       have hown:=own_keep hown2 hy2 (by decide) hgr3
       have hbx:=hbx3
       clear hy2 hy3 hbx2 hx2 hown2 hgr3 hcx hcy hbx3 hgB
       have hE:=eqOneR ⟨q.rd,q.wr,q.sh,q.fi,q.pg + 1⟩ p B (hN1 hfi)
       go_upto_region 12 with (first | (refine wpList_ldg _ _ rfl _ 0 rfl rfl _ hy4.rd _ Try.underlying106 rfl one_size ?_) | (refine wpList_ldg _ _ rfl _ 0 rfl rfl _ hx3.rd _ Try.underlying106 rfl one_size ?_) | (refine wpList_eqS rfl _ _ _ _ rfl _ _ rfl rfl _ (hE _ _ _) ?_))
       clear hE hy4
       have hcx:=hx3.cell
       by_cases hB:B = true
       ·subst hB
        have hst:=Lib.hid (toA_on hfk hstp.out)
        rw [hacc] at hst
        have hne:0 < acc.length:=by
         have:=toA_ne f hfm
         rw [← hmm.out,hacc] at this
         exact this
        obtain ⟨n,hn0⟩:∃ n,acc.length = n + 1:=⟨acc.length - 1,by omega⟩
        have hna:n < acc.length:=by omega
        have hse:Hid (setEn acc ((k:Int) + 1) = acc.set n { acc[n] with en:=(k:Int) + 1 }):=Lib.hid (setEn_at hn0 _)
        have hni:(n:Int) < (acc.length:Int):=by omega
        have hwn:IntKind.i64.wrap ((acc.length:Int) - 1) = (n:Int):=by rw [IntWalk.i64_in _ (by omega)]; omega
        obtain ⟨g,off1,cap1,hv1,hBg,hgl,⟨csg,hgb⟩,hcc,hfz,hset⟩:=own_cell arL_len (by decide) rfl hown n hna 1 (by decide) (.int .i64 ((k:Int) + 1)) { acc[n] with en:=(k:Int) + 1 } rfl
        cases hv1
        have hc1:=hcc 1 _ rfl
        have hbxg:w.heap.size ≠ g:=by
         intro e; subst e
         unfold Blk at hbx hgb
         rw [hbx] at hgb
         simp at hgb
        clear hcc hn0 hfk hacc hfm
        go_upto_region 15 with (fail)
        have hbel6:Below w.heap.size w (W3.setCell ⟨g,off1 + n * 7 + 1,none⟩ (.int .i64 ((k:Int) + 1))):=hbel.setCell hBg _
        have hbx6:Blk (W3.setCell ⟨g,off1 + n * 7 + 1,none⟩ (.int .i64 ((k:Int) + 1))) w.heap.size (fC f) 107:=hbx.setCell_other _ _ (by simpa using hbxg)
        have hown7:Own (W3.setCell ⟨g,off1 + n * 7 + 1,none⟩ (.int .i64 ((k:Int) + 1))) w.heap.size 69 7 (.slice (some ⟨g,off1,none⟩) acc.length cu) (toA f (k + 1)).length ((toA f (k + 1)).flatMap arL):=by
         rw [hst.out,hse.out,List.length_set]; exact hset
        clear hset hown hbel hbx hfz hc1 hgb hcx
        go_wp2
        go_roundw
        case rel=>exact ⟨k + 1,by omega,by go_num,hbel6,hbx6,hown7⟩
        case measure=>simp [intOf]; omega
       ·have hBf:B = false:=by simpa using hB
        subst hBf
        have hst:Hid (toA f (k + 1) = acc ++ [oneAr k p]):=Lib.hid (by rw [toA_new hfk hstp.out,hacc])
        clear hfk hacc hfm hB
        go_upto_region 14 with (fail)
        go_wp2_with (at_builtin; refine wpList_app rfl _ _ 60 rfl w.heap.size 69 _ 7 40 Try.underlying60 area_info rfl (by decide) _ acc.length (acc.flatMap arL) rfl (hown.alloc _) (some ⟨W3.heap.size,0,none⟩) 1 1 (arL (oneAr k p)) rfl (fun h=>(by cases h)) (Nat.le_refl _) rfl (RdV.new _ (arC (oneAr k p)) _) (fun u hu=>areas_one [oneAr k p] u (by simpa using hu)) (by unfold maxLen; omega) (by omega) (le_alloc' hbel.size _) ?_)
        intro v W6 hown6 hgr6
        have hbel6:Below w.heap.size w W6:=(hbel.alloc hbel.size _).grown hgr6 (le_alloc' hbel.size _) (hown.alloc (.cells (arC (oneAr k p)) 69)).ge
        have hbx6:Blk W6 w.heap.size (fC f) 107:=blk_own (hbx.alloc (.cells (arC (oneAr k p)) 69)) (hown.alloc (.cells (arC (oneAr k p)) 69)) (by decide) hgr6
        have hown7:Own W6 w.heap.size 69 7 v (toA f (k + 1)).length ((toA f (k + 1)).flatMap arL):=by
         rw [hst.out,List.flatMap_append,List.length_append]; simpa using hown6
        clear hown6 hgr6
        go_wp2
        go_roundw
        case rel=>exact ⟨k + 1,by omega,by go_num,hbel6,hbx6,hown7⟩
        case measure=>simp [intOf]; omega
      ·have hbx:=hbx2
       have hown:=hown2
       clear hbx2 hown2
       have hfi' : ¬ 0 ≤ p.fi:=hfi
       have hE:=eqOneR q p B (hN0 hfi')
       go_upto_region 12 with (first | (refine wpList_ldg _ _ rfl _ 0 rfl rfl _ hy2.rd _ Try.underlying106 rfl one_size ?_) | (refine wpList_ldg _ _ rfl _ 0 rfl rfl _ hx2.rd _ Try.underlying106 rfl one_size ?_) | (refine wpList_eqS rfl _ _ _ _ rfl _ _ rfl rfl _ (hE _ _ _) ?_))
       clear hE hy2
       have hcx:=hx2.cell
       by_cases hB:B = true
       ·subst hB
        have hst:=Lib.hid (toA_on hfk hstp.out)
        rw [hacc] at hst
        have hne:0 < acc.length:=by
         have:=toA_ne f hfm
         rw [← hmm.out,hacc] at this
         exact this
        obtain ⟨n,hn0⟩:∃ n,acc.length = n + 1:=⟨acc.length - 1,by omega⟩
        have hna:n < acc.length:=by omega
        have hse:Hid (setEn acc ((k:Int) + 1) = acc.set n { acc[n] with en:=(k:Int) + 1 }):=Lib.hid (setEn_at hn0 _)
        have hni:(n:Int) < (acc.length:Int):=by omega
        have hwn:IntKind.i64.wrap ((acc.length:Int) - 1) = (n:Int):=by rw [IntWalk.i64_in _ (by omega)]; omega
        obtain ⟨g,off1,cap1,hv1,hBg,hgl,⟨csg,hgb⟩,hcc,hfz,hset⟩:=own_cell arL_len (by decide) rfl hown n hna 1 (by decide) (.int .i64 ((k:Int) + 1)) { acc[n] with en:=(k:Int) + 1 } rfl
        cases hv1
        have hc1:=hcc 1 _ rfl
        have hbxg:w.heap.size ≠ g:=by
         intro e; subst e
         unfold Blk at hbx hgb
         rw [hbx] at hgb
         simp at hgb
        clear hcc hn0 hfk hacc hfm
        go_upto_region 15 with (fail)
        have hbel6:Below w.heap.size w (W2.setCell ⟨g,off1 + n * 7 + 1,none⟩ (.int .i64 ((k:Int) + 1))):=hbel.setCell hBg _
        have hbx6:Blk (W2.setCell ⟨g,off1 + n * 7 + 1,none⟩ (.int .i64 ((k:Int) + 1))) w.heap.size (fC f) 107:=hbx.setCell_other _ _ (by simpa using hbxg)
        have hown7:Own (W2.setCell ⟨g,off1 + n * 7 + 1,none⟩ (.int .i64 ((k:Int) + 1))) w.heap.size 69 7 (.slice (some ⟨g,off1,none⟩) acc.length cu) (toA f (k + 1)).length ((toA f (k + 1)).flatMap arL):=by
         rw [hst.out,hse.out,List.length_set]; exact hset
        clear hset hown hbel hbx hfz hc1 hgb hcx
        go_wp2
        go_roundw
        case rel=>exact ⟨k + 1,by omega,by go_num,hbel6,hbx6,hown7⟩
        case measure=>simp [intOf]; omega
       ·have hBf:B = false:=by simpa using hB
        subst hBf
        have hst:Hid (toA f (k + 1) = acc ++ [oneAr k p]):=Lib.hid (by rw [toA_new hfk hstp.out,hacc])
        clear hfk hacc hfm hB
        go_upto_region 14 with (fail)
        go_wp2_with (at_builtin; refine wpList_app rfl _ _ 60 rfl w.heap.size 69 _ 7 40 Try.underlying60 area_info rfl (by decide) _ acc.length (acc.flatMap arL) rfl (hown.alloc _) (some ⟨W2.heap.size,0,none⟩) 1 1 (arL (oneAr k p)) rfl (fun h=>(by cases h)) (Nat.le_refl _) rfl (RdV.new _ (arC (oneAr k p)) _) (fun u hu=>areas_one [oneAr k p] u (by simpa using hu)) (by unfold maxLen; omega) (by omega) (le_alloc' hbel.size _) ?_)
        intro v W6 hown6 hgr6
        have hbel6:Below w.heap.size w W6:=(hbel.alloc hbel.size _).grown hgr6 (le_alloc' hbel.size _) (hown.alloc (.cells (arC (oneAr k p)) 69)).ge
        have hbx6:Blk W6 w.heap.size (fC f) 107:=blk_own (hbx.alloc (.cells (arC (oneAr k p)) 69)) (hown.alloc (.cells (arC (oneAr k p)) 69)) (by decide) hgr6
        have hown7:Own W6 w.heap.size 69 7 v (toA f (k + 1)).length ((toA f (k + 1)).flatMap arL):=by
         rw [hst.out,List.flatMap_append,List.length_append]; simpa using hown6
        clear hown6 hgr6
        go_wp2
        go_roundw
        case rel=>exact ⟨k + 1,by omega,by go_num,hbel6,hbx6,hown7⟩
        case measure=>simp [intOf]; omega
  ·have hk64:k = 64:=by omega
   subst hk64
   go_wp2
   go_ret
   exact ⟨_,rfl,hown,hbel⟩
theorem pair_len {a b:Ar} (ha:areaE a = 0) (hb:areaE b = 0) (h:a.en ≤ b.fr):(toA (onesF [a,b]) 64).length = if joinsB a b = true then 1 else 2:=by
 have hs:srtF 0 [a,b]:=⟨ha,(areaE_few ha).1.2.1.1,hb,h,trivial⟩
 have e:toA (onesF [a,b]) 64 = tidyL [a,b]:=toA_eq (tidy_ok hs) fun i _=>by rw [onesF_on hs,tidy_on hs]
 rw [e,tidyL_cons]
 unfold tidyGo
 split <;> rfl
theorem few_any (f:Nat → Option Pg) (m:List Ar) (hm:okF none m) (hf:∀ i:Nat,i < 64 → f i = onA m i) (hf' : ∀ i p,f i = some p → 0 ≤ p.pg ∧ p.pg ≤ 100) (w:World) :
  Calls Try.prog 106 #[.agg (fC f)] w fun r w' => ∃ v,r = .returned (.tuple #[v,.int .i64 (doneE m.length)]) ∧ Own w' w.heap.size 69 7 v (if 16 < m.length then [] else m).length ((if 16 < m.length then [] else m).flatMap arL) ∧ Below w.heap.size w w':=by
 have hs384:=Lib.hid (fC_size f)
 have hl64:=toA_len f 64
 rw [toA_eq hm hf] at hl64
 go_enter Try.func106,Try.ntmps106
 go_upto_region 1 with (fail)
 refine abs1 (fun W=>Code.wp _ _ _ _ W) fun W0 hb0 hx0 hs0 => ?_
 clear hs0
 go_wp2_with (refine wpList_ldg _ _ rfl _ 0 rfl rfl _ hx0.rd _ Try.underlying107 rfl (by rw [Array.length_toList,hs384.out]; exact ones_size) ?_)
 refine (areas_any f _ hf').mono ?_
 rintro r w1 ⟨v1,rfl,hO1,hb1⟩
 rw [toA_eq hm hf] at hO1
 have hbel:=below_next hb0 hb1
 replace hO1:=hO1.mono hb0.size
 obtain ⟨a1,c1,rfl,_⟩:=hO1.rd
 clear hb0 hx0 hb1
 by_cases h:16 < m.length
 ·have hi:(16:Int) < (m.length:Int):=by omega
  have hd:Hid (doneE m.length = 4):=Lib.hid (by unfold doneE; rw [if_pos h])
  go_wp2
  go_ret2
  exact ⟨.slice none 0 0,by first | (rw [hd.out]; done) | (rw [hd.out]; rfl),by first | exact Own.nil _ _ _ _ | (rw [if_pos h]; exact Own.nil _ _ _ _),hbel⟩
 ·have hi:¬ (16:Int) < (m.length:Int):=by omega
  have hd:Hid (doneE m.length = 0):=Lib.hid (by unfold doneE; rw [if_neg h])
  go_wp2
  go_ret2
  exact ⟨.slice a1 m.length c1,by first | (rw [hd.out]; done) | (rw [hd.out]; rfl),by first | exact hO1 | (rw [if_neg h]; exact hO1),hbel⟩
theorem run_slice_two {P:Program} {ρ:Operand → Value} {o:Oper} {w:World} {t:TypeId} {x l h:Operand} {b off n c O sz:Nat} (ho:o.op = .slice t x (some l) (some h) none) (hx:ρ x = .slice (some ⟨b,off,none⟩) n c) (hl:ρ l = .int .i64 O) (hh:ρ h = .int .i64 ((O:Int) + 2))
  (ht:P.underlying t = some (.slice (P.elem t))) (hs:(P.info? (P.elem t)).map (·.size) = some sz) (hO:O + 1 < n) (hn:n ≤ c) :
  (execOp ρ o).run P w = .ok (.value (.slice (some ⟨b,off + O * sz,none⟩) 2 (c - O))) w:=by
 have hsz:(Go.sizeOf (P.elem t)).run P w = .ok sz w:=by
  cases hq:P.info? (P.elem t) with
  | none=>simp [hq] at hs
  | some i=>
   have hz:i.size = sz:=by simpa [hq] using hs
   simp [Go.sizeOf,typeInfo,run_program,hq,hz]
 unfold execOp
 simp only [ho,hx,hl,hh,Option.map]
 rw [Sem.run_bind,run_sliceAt_slice w t _ _ _ _ ht,run_slice_lh w t _ n c ht .i64 .i64 O (O + 2) (by omega) (by omega) (by omega),hsz]
 have e1:((O:Int) + 2).toNat - (O:Int).toNat = 2:=by omega
 have e2:((O:Int) + 2).toNat - O = 2:=by omega
 simp [sliced,e1,e2,Addr.add,show ¬ c = O by omega,go_sem]
theorem two_at {w:World} {b off:Nat} {l:List Ar} (h:RdV w (some ⟨b,off,none⟩) (l.flatMap arL)) {m:Nat} (hm:m + 1 < l.length):RdV w (some ⟨b,off + m * 7,none⟩) ([l[m],l[m + 1]].flatMap arL):=by
 have h1:=ar_at' h m (by omega)
 have h2:=ar_at' h (m + 1) hm
 intro j u hj
 refine ⟨b,off + m * 7,rfl,?_⟩
 simp only [List.flatMap_cons,List.flatMap_nil,List.append_nil] at hj
 by_cases c:j < 7
 ·rw [List.getElem?_append_left (by rw [arL_len]; exact c)] at hj
  exact h1 j u hj
 ·rw [List.getElem?_append_right (by rw [arL_len]; omega),arL_len] at hj
  have:=h2 _ u hj
  rwa [show off + (m + 1) * 7 + (j - 7) = off + m * 7 + j by omega] at this
theorem rwrong_any (l:List Ar) (a:Option Addr) (c:Nat) (w:World) (h:AsR w a c l) :
  Calls Try.prog 89 #[.slice a l.length c] w fun e w'=>e = .returned (.agg (fauC (wrongA l))) ∧ Below w.heap.size w w':=by
 have hlc:=h.le
 have hlm:=Nat.le_trans h.le h.mx
 unfold maxLen at hlm
 have hrd:=h.rd
 go_enter Try.func89,Try.ntmps89
 go_upto_region 1 with (fail)
 refine abs1 (fun W=>Code.wp _ _ _ _ W) fun W0 hbel hres hs0 => ?_
 clear hs0
 by_cases h16:16 < l.length
 ·have h16' : (16:Int) < (l.length:Int):=by omega
  have hz:Hid (wrongA l = (4,0)):=Lib.hid (by unfold wrongA; rw [if_pos h16])
  go_wp2_with (refine wpList_stw rfl _ _ _ rfl w.heap.size #[.int .i64 (4),.int .i64 (0)] rfl rfl _ _ hres rfl fau_size (fau_one _ _) ?_)
  intro w5 hr5 hgr5
  have hbel5:Below w.heap.size w w5:=hbel.grown hgr5 hbel.size (fun k hk=>by cases hk; exact Nat.le_refl _)
  go_wp2
  refine bodyPost_ret (v:=.agg #[.int .i64 (4),.int .i64 (0)]) (results_c Try.results89 _ _ w.heap.size _ _ _ rfl hr5 Try.underlying155 rfl fau_size) rfl ?_
  exact ⟨by rw [hz.out]; rfl,hbel5⟩
 ·have h16' : ¬ (16:Int) < (l.length:Int):=by omega
  have h0:Hid (wrongA l = wrongAt (prevA l 0) 0 (l.drop 0)):=Lib.hid (by unfold wrongA; rw [if_neg h16]; rfl)
  go_upto_region 4 with (fail)
  go_loopw [12] (fun i wr => ∃ k:Nat,k ≤ l.length ∧ i = .int .i64 k ∧ Below w.heap.size w wr ∧ Blk wr w.heap.size #[.int .i64 0,.int .i64 0] 155 ∧ (∀ i (h:i < l.length),i < k → areaE l[i] = 0) ∧ Hid (wrongA l = wrongAt (prevA l k) k (l.drop k))) (fun i _=>l.length - (intOf i).toNat)
  case atStart=>exact ⟨0,Nat.zero_le _,rfl,hbel,hres,fun i _ h=>absurd h (Nat.not_lt_zero _),h0⟩
  case round=>
   clear hbel hres h0
   obtain ⟨k,hk,rfl,hbel,hres,hp0,hst⟩:=hrel
   have hp:=Lib.hid hp0
   clear hp0
   by_cases hlt:k < l.length
   ·obtain ⟨b,off,rfl,c0,c1,c2,c3,c4,c5,c6⟩:=ar_at7 (hrd.below hbel) k hlt
    have hki:(k:Int) < (l.length:Int):=by omega
    go_upto_region 6 with (fail)
    refine abs1 (fun W=>Code.wp _ _ _ _ W) fun W1 hb1 hx1 hs1 => ?_
    have hbel:=below_next hbel hb1
    have hres:=hres.ext hb1
    clear hs1 hb1 c0 c1 c2 c3 c4 c5 c6
    obtain ⟨gx,hgx⟩:∃ g,g = wr.heap.size:=⟨_,rfl⟩
    rw [← hgx] at hx1 ⊢
    clear hgx
    go_wp2_with (refine wpList_ldg _ _ rfl _ 0 rfl rfl _ hx1.rd _ Try.underlying69 rfl area_size ?_)
    refine (warea_any l[k] _).mono ?_
    rintro r w2 ⟨rfl,hb2⟩
    have hbel2:=below_next hbel hb2
    have hres2:=hres.ext hb2
    have hx2:=hx1.ext hb2
    clear hbel hres hb2 hx1
    by_cases he:areaE l[k] = 0
    ·have he':=Lib.hid he
     rw [he]
     clear he
     go_upto_region 9 with (fail)
     by_cases hk0:k = 0
     ·subst hk0
      have hd0:decide ((0:Int) < ((0:Nat):Int)) = false:=rfl
      have hnx:Hid (wrongA l = wrongAt (prevA l (0 + 1)) (0 + 1) (l.drop (0 + 1))):=Lib.hid (by rw [hst.out]; exact wrong_next hlt he'.out rfl)
      go_quiet (fail)
      go_wp2
      go_roundw
      case rel=>exact ⟨0 + 1,by omega,by go_num,below_drewN hbel2 _,hres2.drewN _,upto' hp.out hlt he'.out,hnx⟩
      case measure=>simp [intOf]; omega
     ·obtain ⟨m,rfl⟩:∃ m,k = m + 1:=⟨k - 1,by omega⟩
      have hm1:IntKind.i64.wrap (((m + 1:Nat):Int) - 1) = (m:Int):=by rw [IntWalk.i64_in _ (by omega)]; omega
      have hml:m < l.length:=by omega
      have hm2:IntKind.i64.wrap (m:Int) = (m:Int):=IntWalk.i64_in _ (by omega)
      have hm3:IntKind.i64.wrap ((m:Int) + 1 + 1) = (m:Int) + 2:=by rw [IntWalk.i64_in _ (by omega)]; omega
      have hm4:IntKind.i64.wrap (((m + 1:Nat):Int) + 1) = (m:Int) + 2:=by rw [IntWalk.i64_in _ (by omega)]; omega
      have hbp:=Lib.hid (bad_prev hlt)
      have hE0:=hp.out m hml (by omega)
      have hRd:=hrd.below hbel2
      have hPm:=ar_at' hRd m hml
      have hT:=two_at hrd hlt
      have hpr:∀ x ∈ [l[m],l[m + 1]],areaE x = 0:=fun x hx=>by
       rcases List.mem_cons.1 hx with rfl | hx
       ·exact hE0
       ·rw [List.mem_singleton.1 hx]; exact he'.out
      have hup:Hid (∀ i (h:i < l.length),i < m + 1 + 1 → areaE l[i] = 0):=Lib.hid (upto' hp.out hlt he'.out)
      generalize hA1:l[m + 1] = A1 at *
      generalize hA0:l[m] = A0 at *
      by_cases hov:A1.fr < A0.en
      ·have hz:Hid (wrongA l = (2,((m + 1:Nat):Int))):=Lib.hid (by rw [hst.out]; exact wrong_stop hlt (by rw [hA1]; exact he'.out) (by rw [hA1,hbp.out,decide_eq_true hov]; rfl))
       have hpo:True:=trivial
       have hpl:True:=trivial
       refine wp_growP 25 [_,_,_,_,_,_,.v (.pointer (some ⟨b,off + m * 7,none⟩)),_,.v (.int .i64 A0.en),_,.v (.int .i64 A1.fr),_,_,_,_,_,_,_,_,_,_,_,_,_,.v (.bool true)] (Gk rfl (Gb (.bool true) (by simp [go_sem]) rfl rfl rfl rfl rfl (Gk rfl (Gk rfl (Gk rfl (Gb (.int .i64 (m:Int)) (by simp [go_sem,hm1,hm2]) rfl rfl rfl rfl rfl (all_cons ?_ (Gf b (off + m * 7 + 1) rfl rfl (all_cons ?_ (Gf gx 0 rfl rfl (all_cons ?_ (Gb (.bool true) (by simp [go_sem,hov]) rfl rfl rfl rfl rfl (Gk rfl (Gk rfl (Gk rfl (Gk rfl (Gk rfl (Gk rfl (Gk rfl (Gk rfl (Gk rfl (Gk rfl (Gk rfl (Gk rfl (Gk rfl (all_nil)))))))))))))))))))))))))) (fun _=>rfl) rfl ?_
       ·intro ρ y W hw hn hb hd; have E27:=hw 27 3 rfl; have h3:y 3 = _:=hd 3 rfl; have E29:=hw 29 5 rfl; have h5:y 5 = _:=hd 5 rfl
        refine asked_val (.pointer (some ⟨b,off + m * 7,none⟩)) (want_at 2 26 true true rfl rfl ((hw 26 2 rfl).trans (hd 2 rfl))) (by simp [execOp,go_sem,E27,h3,E29,h5,hml]) rfl
       ·intro ρ y W hw hn hb hd; have E31:=hw 31 7 rfl; have h7:y 7 = _:=hd 7 rfl
        have hc0:=(hPm.below hb).cells.2.1
        refine asked_val (.int .i64 A0.en) (want_at 2 26 true true rfl rfl ((hw 26 2 rfl).trans (hd 2 rfl))) (by simp [execOp,go_sem,E31,h7,hc0]) rfl
       ·intro ρ y W hw hn hb hd; have E33:=hw 33 9 rfl; have h9:y 9 = _:=hd 9 rfl
        have hc0:=(hx2.ext hb).cell 0
        simp at hc0
        refine asked_val (.int .i64 A1.fr) (want_at 2 26 true true rfl rfl ((hw 26 2 rfl).trans (hd 2 rfl))) (by simp [execOp,go_sem,E33,h9,hc0]) rfl
       intro y WA hbWA _
       have hbel:=below_next hbel2 hbWA
       have hres:=hres2.ext hbWA
       clear hbel2 hres2
       go_wp2_with (refine wpList_stw rfl _ _ _ rfl w.heap.size #[.int .i64 (2),.int .i64 (((m + 1:Nat):Int))] rfl rfl _ _ hres rfl fau_size (fau_one _ _) ?_)
       intro w5 hr5 hgr5
       have hbel5:Below w.heap.size w w5:=hbel.grown hgr5 hbel.size (fun k hk=>by cases hk; exact Nat.le_refl _)
       go_wp2
       refine bodyPost_ret (v:=.agg #[.int .i64 (2),.int .i64 (((m + 1:Nat):Int))]) (results_c Try.results89 _ _ w.heap.size _ _ _ rfl hr5 Try.underlying155 rfl fau_size) rfl ?_
       exact ⟨by rw [hz.out]; rfl,hbel5⟩
      ·have hs:srtF 0 [A0,A1]:=⟨hE0,(areaE_few hE0).1.2.1.1,he'.out,by omega,trivial⟩
       have hpo:=onesF_ok hs
       have hpl0:=pair_len hE0 he'.out (by omega:A0.en ≤ A1.fr)
       cases hj:joinsB A0 A1
       ·have hpl:(toA (onesF [A0,A1]) 64).length = 2:=by rw [hpl0,hj]; rfl
        have hnx:Hid (wrongA l = wrongAt (prevA l (m + 1 + 1)) (m + 1 + 1) (l.drop (m + 1 + 1))):=Lib.hid (by rw [hst.out]; exact wrong_next hlt (by rw [hA1]; exact he'.out) (by rw [hA1,hbp.out,decide_eq_false hov,hj]; rfl))
        clear hpl0 hs
        refine wp_growP 25 [_,_,_,_,_,_,.v (.pointer (some ⟨b,off + m * 7,none⟩)),_,.v (.int .i64 A0.en),_,.v (.int .i64 A1.fr),_,_,_,_,_,_,_,_,.v (.agg (fC (onesF [A0,A1]))),.r 20 ((ownR w.heap.size 69 7 (toA (onesF [A0,A1]) 64).length ((toA (onesF [A0,A1]) 64).flatMap arL))),.v (.int .i64 (2)),_,_,.v (.bool false)] (Gk rfl (Gb (.bool true) (by simp [go_sem]) rfl rfl rfl rfl rfl (Gk rfl (Gk rfl (Gk rfl (Gb (.int .i64 (m:Int)) (by simp [go_sem,hm1,hm2]) rfl rfl rfl rfl rfl (all_cons ?_ (Gf b (off + m * 7 + 1) rfl rfl (all_cons ?_ (Gf gx 0 rfl rfl (all_cons ?_ (Gb (.bool false) (by simp [go_sem,hov]) rfl rfl rfl rfl rfl (Gk rfl (Gk rfl (Gk rfl (Gb (.int .i64 (m:Int)) (by simp [go_sem,hm1,hm2]) rfl rfl rfl rfl rfl (Gk rfl (Gb (.int .i64 ((m:Int) + 2)) (by simp [go_sem,hm3,hm4]) rfl rfl rfl rfl rfl (Gr (.slice (some ⟨b,off + m * 7,none⟩) 2 (c - m)) (fun ρ y W hb hk=>(run_slice_two rfl (kx_at rfl hk) (kx_at rfl hk) (kx_at rfl hk) Try.underlying60 area_size hlt hlc)) rfl rfl (all_cons ?_ (all_cons ?_ (all_cons ?_ (Gb (.bool false) (by simp [go_sem]) rfl rfl rfl rfl rfl (Gk rfl (Gk rfl (all_nil)))))))))))))))))))))))))) (fun _=>rfl) rfl ?_
        ·intro ρ y W hw hn hb hd; have E27:=hw 27 3 rfl; have h3:y 3 = _:=hd 3 rfl; have E29:=hw 29 5 rfl; have h5:y 5 = _:=hd 5 rfl
         refine asked_val (.pointer (some ⟨b,off + m * 7,none⟩)) (want_at 2 26 true true rfl rfl ((hw 26 2 rfl).trans (hd 2 rfl))) (by simp [execOp,go_sem,E27,h3,E29,h5,hml]) rfl
        ·intro ρ y W hw hn hb hd; have E31:=hw 31 7 rfl; have h7:y 7 = _:=hd 7 rfl
         have hc0:=(hPm.below hb).cells.2.1
         refine asked_val (.int .i64 A0.en) (want_at 2 26 true true rfl rfl ((hw 26 2 rfl).trans (hd 2 rfl))) (by simp [execOp,go_sem,E31,h7,hc0]) rfl
        ·intro ρ y W hw hn hb hd; have E33:=hw 33 9 rfl; have h9:y 9 = _:=hd 9 rfl
         have hc0:=(hx2.ext hb).cell 0
         simp at hc0
         refine asked_val (.int .i64 A1.fr) (want_at 2 26 true true rfl rfl ((hw 26 2 rfl).trans (hd 2 rfl))) (by simp [execOp,go_sem,E33,h9,hc0]) rfl
        ·intro ρ y W hw hn hb hd; have E42:=hw 42 18 rfl; have h18:y 18 = _:=hd 18 rfl
         have EF:∀ f,ρ (.func f) = .func (.func f) #[] #[]:=fun f=>hn (.func f) trivial
         refine asked_call _ _ (want_at 12 36 false false rfl rfl ((hw 36 12 rfl).trans (hd 12 rfl))) (run_call rfl (EF _) Try.func44 (by kernel_rfl) (by kernel_rfl) (by simp only [List.map_toArray,List.map_cons,List.map_nil,E42,h18,EF]; rfl)) ?_
         refine (ones_any [A0,A1] _ (c - m) W (hT.below (below_next hbel2 hb)) (by simp) hpr).mono ?_
         rintro r w1 ⟨rfl,hb1⟩
         exact ⟨_,rfl,hb1,rfl⟩
        ·intro ρ y W hw hn hb hd; have E43:=hw 43 19 rfl; have h19:y 19 = _:=hd 19 rfl
         have EF:∀ f,ρ (.func f) = .func (.func f) #[] #[]:=fun f=>hn (.func f) trivial
         refine asked_call _ _ (want_at 12 36 false false rfl rfl ((hw 36 12 rfl).trans (hd 12 rfl))) (run_call rfl (EF _) Try.func118 (by kernel_rfl) (by kernel_rfl) (by simp only [List.map_toArray,List.map_cons,List.map_nil,E43,h19,EF]; rfl)) ?_
         refine (areas_any (onesF [A0,A1]) W hpo).mono ?_
         rintro r w1 ⟨v1,rfl,ho,hb1⟩
         exact ⟨v1,rfl,hb1,ho.mono (Nat.le_trans hbel2.size hb.size)⟩
        ·intro ρ y W hw hn hb hd; have E44:=hw 44 20 rfl; have h20:=hd 20 rfl
         obtain ⟨a20,c20,h20v,_⟩:=Own.rd h20
         refine asked_val (.int .i64 (2)) (want_at 12 36 false false rfl rfl ((hw 36 12 rfl).trans (hd 12 rfl))) (by simp [execOp,go_sem,E44,h20v,hpl]) rfl
        intro y WA hbWA hRWA
        have hy20:((ownR w.heap.size 69 7 (toA (onesF [A0,A1]) 64).length ((toA (onesF [A0,A1]) 64).flatMap arL))).r (y 20) WA:=hRWA 20 (by decide)
        clear hRWA
        have hbel:=below_next hbel2 hbWA
        have hres:=hres2.ext hbWA
        clear hbel2 hres2 hm1 hm2 hm3 hm4 hpl
        go_wp2
        go_roundw
        case rel=>exact ⟨m + 1 + 1,by omega,by go_num,hbel,hres,hup.out,hnx⟩
        case measure=>simp [intOf]; omega
       ·have hpl:(toA (onesF [A0,A1]) 64).length = 1:=by rw [hpl0,hj]; rfl
        have hz:Hid (wrongA l = (2,((m + 1:Nat):Int))):=Lib.hid (by rw [hst.out]; exact wrong_stop hlt (by rw [hA1]; exact he'.out) (by rw [hA1,hbp.out,hj,Bool.or_true]))
        clear hpl0 hs
        refine wp_growP 25 [_,_,_,_,_,_,.v (.pointer (some ⟨b,off + m * 7,none⟩)),_,.v (.int .i64 A0.en),_,.v (.int .i64 A1.fr),_,_,_,_,_,_,_,_,.v (.agg (fC (onesF [A0,A1]))),.r 20 ((ownR w.heap.size 69 7 (toA (onesF [A0,A1]) 64).length ((toA (onesF [A0,A1]) 64).flatMap arL))),.v (.int .i64 (1)),_,_,.v (.bool true)] (Gk rfl (Gb (.bool true) (by simp [go_sem]) rfl rfl rfl rfl rfl (Gk rfl (Gk rfl (Gk rfl (Gb (.int .i64 (m:Int)) (by simp [go_sem,hm1,hm2]) rfl rfl rfl rfl rfl (all_cons ?_ (Gf b (off + m * 7 + 1) rfl rfl (all_cons ?_ (Gf gx 0 rfl rfl (all_cons ?_ (Gb (.bool false) (by simp [go_sem,hov]) rfl rfl rfl rfl rfl (Gk rfl (Gk rfl (Gk rfl (Gb (.int .i64 (m:Int)) (by simp [go_sem,hm1,hm2]) rfl rfl rfl rfl rfl (Gk rfl (Gb (.int .i64 ((m:Int) + 2)) (by simp [go_sem,hm3,hm4]) rfl rfl rfl rfl rfl (Gr (.slice (some ⟨b,off + m * 7,none⟩) 2 (c - m)) (fun ρ y W hb hk=>(run_slice_two rfl (kx_at rfl hk) (kx_at rfl hk) (kx_at rfl hk) Try.underlying60 area_size hlt hlc)) rfl rfl (all_cons ?_ (all_cons ?_ (all_cons ?_ (Gb (.bool true) (by simp [go_sem]) rfl rfl rfl rfl rfl (Gk rfl (Gk rfl (all_nil)))))))))))))))))))))))))) (fun _=>rfl) rfl ?_
        ·intro ρ y W hw hn hb hd; have E27:=hw 27 3 rfl; have h3:y 3 = _:=hd 3 rfl; have E29:=hw 29 5 rfl; have h5:y 5 = _:=hd 5 rfl
         refine asked_val (.pointer (some ⟨b,off + m * 7,none⟩)) (want_at 2 26 true true rfl rfl ((hw 26 2 rfl).trans (hd 2 rfl))) (by simp [execOp,go_sem,E27,h3,E29,h5,hml]) rfl
        ·intro ρ y W hw hn hb hd; have E31:=hw 31 7 rfl; have h7:y 7 = _:=hd 7 rfl
         have hc0:=(hPm.below hb).cells.2.1
         refine asked_val (.int .i64 A0.en) (want_at 2 26 true true rfl rfl ((hw 26 2 rfl).trans (hd 2 rfl))) (by simp [execOp,go_sem,E31,h7,hc0]) rfl
        ·intro ρ y W hw hn hb hd; have E33:=hw 33 9 rfl; have h9:y 9 = _:=hd 9 rfl
         have hc0:=(hx2.ext hb).cell 0
         simp at hc0
         refine asked_val (.int .i64 A1.fr) (want_at 2 26 true true rfl rfl ((hw 26 2 rfl).trans (hd 2 rfl))) (by simp [execOp,go_sem,E33,h9,hc0]) rfl
        ·intro ρ y W hw hn hb hd; have E42:=hw 42 18 rfl; have h18:y 18 = _:=hd 18 rfl
         have EF:∀ f,ρ (.func f) = .func (.func f) #[] #[]:=fun f=>hn (.func f) trivial
         refine asked_call _ _ (want_at 12 36 false false rfl rfl ((hw 36 12 rfl).trans (hd 12 rfl))) (run_call rfl (EF _) Try.func44 (by kernel_rfl) (by kernel_rfl) (by simp only [List.map_toArray,List.map_cons,List.map_nil,E42,h18,EF]; rfl)) ?_
         refine (ones_any [A0,A1] _ (c - m) W (hT.below (below_next hbel2 hb)) (by simp) hpr).mono ?_
         rintro r w1 ⟨rfl,hb1⟩
         exact ⟨_,rfl,hb1,rfl⟩
        ·intro ρ y W hw hn hb hd; have E43:=hw 43 19 rfl; have h19:y 19 = _:=hd 19 rfl
         have EF:∀ f,ρ (.func f) = .func (.func f) #[] #[]:=fun f=>hn (.func f) trivial
         refine asked_call _ _ (want_at 12 36 false false rfl rfl ((hw 36 12 rfl).trans (hd 12 rfl))) (run_call rfl (EF _) Try.func118 (by kernel_rfl) (by kernel_rfl) (by simp only [List.map_toArray,List.map_cons,List.map_nil,E43,h19,EF]; rfl)) ?_
         refine (areas_any (onesF [A0,A1]) W hpo).mono ?_
         rintro r w1 ⟨v1,rfl,ho,hb1⟩
         exact ⟨v1,rfl,hb1,ho.mono (Nat.le_trans hbel2.size hb.size)⟩
        ·intro ρ y W hw hn hb hd; have E44:=hw 44 20 rfl; have h20:=hd 20 rfl
         obtain ⟨a20,c20,h20v,_⟩:=Own.rd h20
         refine asked_val (.int .i64 (1)) (want_at 12 36 false false rfl rfl ((hw 36 12 rfl).trans (hd 12 rfl))) (by simp [execOp,go_sem,E44,h20v,hpl]) rfl
        intro y WA hbWA hRWA
        have hy20:((ownR w.heap.size 69 7 (toA (onesF [A0,A1]) 64).length ((toA (onesF [A0,A1]) 64).flatMap arL))).r (y 20) WA:=hRWA 20 (by decide)
        clear hRWA
        have hbel:=below_next hbel2 hbWA
        have hres:=hres2.ext hbWA
        clear hbel2 hres2
        go_wp2_with (refine wpList_stw rfl _ _ _ rfl w.heap.size #[.int .i64 (2),.int .i64 (((m + 1:Nat):Int))] rfl rfl _ _ hres rfl fau_size (fau_one _ _) ?_)
        intro w5 hr5 hgr5
        have hbel5:Below w.heap.size w w5:=hbel.grown hgr5 hbel.size (fun k hk=>by cases hk; exact Nat.le_refl _)
        go_wp2
        refine bodyPost_ret (v:=.agg #[.int .i64 (2),.int .i64 (((m + 1:Nat):Int))]) (results_c Try.results89 _ _ w.heap.size _ _ _ rfl hr5 Try.underlying155 rfl fau_size) rfl ?_
        exact ⟨by rw [hz.out]; rfl,hbel5⟩
    ·have hz:Hid (wrongA l = (areaE l[k],(k:Int))):=Lib.hid (by rw [hst.out]; exact wrong_bad hlt he)
     have he' : (areaE l[k] != 0) = true:=by simpa using he
     have hbel:=hbel2
     have hres:=hres2
     clear he hbel2 hres2
     go_wp2_with (refine wpList_stw rfl _ _ _ rfl w.heap.size #[.int .i64 (areaE l[k]),.int .i64 (k)] rfl rfl _ _ hres rfl fau_size (fau_one _ _) ?_)
     intro w5 hr5 hgr5
     have hbel5:Below w.heap.size w w5:=hbel.grown hgr5 hbel.size (fun k hk=>by cases hk; exact Nat.le_refl _)
     go_wp2
     refine bodyPost_ret (v:=.agg #[.int .i64 (areaE l[k]),.int .i64 (k)]) (results_c Try.results89 _ _ w.heap.size _ _ _ rfl hr5 Try.underlying155 rfl fau_size) rfl ?_
     exact ⟨by rw [hz.out]; rfl,hbel5⟩
   ·have hz:Hid (wrongA l = (0,0)):=Lib.hid (by rw [hst.out,List.drop_eq_nil_of_le (by omega)]; rfl)
    go_wp2_with (refine wpList_stw rfl _ _ _ rfl w.heap.size #[.int .i64 (0),.int .i64 (0)] rfl rfl _ _ hres rfl fau_size (fau_one _ _) ?_)
    intro w5 hr5 hgr5
    have hbel5:Below w.heap.size w w5:=hbel.grown hgr5 hbel.size (fun k hk=>by cases hk; exact Nat.le_refl _)
    go_wp2
    refine bodyPost_ret (v:=.agg #[.int .i64 (0),.int .i64 (0)]) (results_c Try.results89 _ _ w.heap.size _ _ _ rfl hr5 Try.underlying155 rfl fau_size) rfl ?_
    exact ⟨by rw [hz.out]; rfl,hbel5⟩
theorem ents_size:(Try.prog.info? 95).map (·.size) = some 192:=by kernel_rfl
theorem putAt_sub {cur:Array Value} {o d:Nat} {xs ys vs:List Value} (hlen:ys.length = xs.length) (hfit:o + xs.length ≤ cur.size) (hc:∀ j u,xs[j]? = some u → cur[o + j]? = some u) (hd:d + vs.length ≤ xs.length)
  (hin:∀ i,i < vs.length → ys[d + i]? = vs[i]?) (hout:∀ i,(i < d ∨ d + vs.length ≤ i) → ys[i]? = xs[i]?):putAt cur (o + d) vs = putAt cur o ys:=by
 apply Array.ext_getElem?
 intro m
 by_cases h1:o ≤ m ∧ m < o + xs.length
 ·obtain ⟨e,rfl⟩:∃ e,m = o + e:=⟨m - o,by omega⟩
  obtain ⟨u,hu⟩:∃ u,ys[e]? = some u:=⟨_,List.getElem?_eq_getElem (by omega)⟩
  rw [putAt_in _ _ _ _ u (by omega) hu]
  by_cases h2:d ≤ e ∧ e < d + vs.length
  ·obtain ⟨i,rfl⟩:∃ i,e = d + i:=⟨e - d,by omega⟩
   rw [hin i (by omega)] at hu
   rw [← Nat.add_assoc]
   exact putAt_in _ _ _ _ u (by omega) hu
  ·rw [hout e (by omega)] at hu
   rw [putAt_out _ _ _ _ (by omega)]
   exact hc _ _ hu
 ·rw [putAt_out _ _ _ _ (by omega),putAt_out _ _ _ _ (by omega)]
theorem upFr_put {cur:Array Value} {o:Nat} {X:Fr} (hfit:o + 13 ≤ cur.size) (hc:∀ j u,(frL X)[j]? = some u → cur[o + j]? = some u):putAt cur (o + 8) [.int .i64 (X.r + 1)] = putAt cur o (frL (upFr X)):=
 putAt_sub (xs:=frL X) rfl hfit hc (by show 8 + 1 ≤ 13; omega) (fun i hi=>by
  obtain rfl:i = 0:=by simpa using hi
  rfl) (fun i hi=>by
  match i,hi with
  | 0,_=>rfl
  | 1,_=>rfl
  | 2,_=>rfl
  | 3,_=>rfl
  | 4,_=>rfl
  | 5,_=>rfl
  | 6,_=>rfl
  | 7,_=>rfl
  | 8,h=>exact absurd h (by show ¬ (8 < 8 ∨ 8 + 1 ≤ 8); omega)
  | 9,_=>rfl
  | 10,_=>rfl
  | 11,_=>rfl
  | 12,_=>rfl
  | n + 13,_=>rfl)
def EnterR (S:MW) (p n:Nat) (B b:Nat) (w:World) (r:Ending) (w' : World):Prop:=∃ S',r = .returned (.tuple #[]) ∧ MkO w' B b S' ∧ MS w b S w' S' ∧ Kep S S' ∧ Bd S'.H.ma S'.T ∧ ∀ q j,¬ (q = p ∧ j = n) → entT S'.T q j = entT S.T q j
theorem renter_any (S:MW) (p n:Nat) (g:Pg) (B b:Nat) (w:World) (h:MkO w B b S) (hd:Bd S.H.ma S.T) (hp:p < S.H.sp.length) (hn:n < 64) (h0:(entT S.T p n).k = 0) (hg:onA (spN S.H.ma p).ar n = some g) (hfi:g.fi < S.H.fi.length) (hpg:0 ≤ g.pg) (hsh:g.sh = true → 0 ≤ g.fi) :
  Calls Try.prog 76 #[.pointer (some ⟨b,0,none⟩),.int .i64 p,.int .i64 n,.agg #[.bool true,.bool g.rd,.bool g.wr,.bool g.sh,.int .i64 g.fi,.int .i64 g.pg]] w (EnterR S p n B b w):=by
 obtain ⟨grd,gwr,gsh,gfi,gpg⟩:=g
 dsimp only at hfi hpg hsh ⊢
 obtain ⟨I,rfl⟩:=Int.eq_ofNat_of_zero_le hpg
 have hd':=Lib.hid hd
 have hg':=Lib.hid hg
 have h0':=Lib.hid h0
 have hBs:=Lib.hid h.bs
 clear hd hg h0 hpg
 go_enter Try.func76,Try.ntmps76
 go_upto_region 1 with (fail)
 refine abs1 (fun W=>Code.wp _ _ _ _ W) fun w1 hb1 bx1 hs1 => ?_
 have h1:=h.below hb1
 have s1:=(MS.refl w b S).below hb1
 have hn0:=Lib.hid (h.new (Nat.le_refl _))
 clear h hb1 hs1
 go_wp2_with fail
 refine (rpick_any _ 4 B b _ h1 (by omega)).mono ?_
 rintro r w2 ⟨x,a2,c2,l2,rfl,h2,s2,hx,_⟩
 have bx2:=s2.blkN bx1 hn0.out
 have s2:=s1.trans s2
 clear h1 s1 bx1
 have hcx:=bx2.cell
 go_upto_region 5 with (fail)
 by_cases hx0:x = 0
 ·subst hx0
  go_wp2
  refine bodyPost_ret (v:=.tuple #[]) (by simp [results,go_sem,Try.results76]) rfl ?_
  exact ⟨_,rfl,h2,s2,⟨rfl,rfl,rfl,rfl,rfl,rfl⟩,hd'.out,fun _ _ _=>rfl⟩
 ·have hx0b:(x == 0) = false:=by simp [hx0]
  go_upto_region 6 with (fail)
  go_cut [44] (fun s44 wx=>s44 = .bool (decide (0 ≤ gfi ∧ (gsh = true ∨ x = 1))) ∧ wx = w2)
  case first=>
   by_cases hf:0 ≤ gfi
   ·cases gsh with
    | true=>
     go_wp2
     go_meet
     case rel=>exact ⟨by simp [hf],rfl⟩
    | false=>
     by_cases hx1:x = 1
     ·have hx1b:(x == 1) = true:=by simp [hx1]
      have hx1':=Lib.hid hx1
      clear hx1
      go_wp2
      go_meet
      case rel=>exact ⟨by rw [decide_eq_true ⟨hf,.inr hx1'.out⟩],rfl⟩
     ·have hx1b:(x == 1) = false:=by simp [hx1]
      go_wp2
      go_meet
      case rel=>exact ⟨by rw [decide_eq_false (by rintro ⟨_,h | h⟩; cases h; exact hx1 h)],rfl⟩
   ·go_wp2
    go_meet
    case rel=>exact ⟨by rw [decide_eq_false (fun h=>by have:=h.1; omega)],rfl⟩
  case rest=>
   obtain ⟨rfl,hwc⟩:=hcut
   subst wc
   by_cases hF:0 ≤ gfi ∧ (gsh = true ∨ x = 1)
   ·rw [decide_eq_true hF]
    obtain ⟨F,rfl⟩:=Int.eq_ofNat_of_zero_le hF.1
    have hFl:F < S.H.fi.length:=by omega
    obtain ⟨p0,hp0⟩:∃ p0,S.H.fi[F]? = some p0:=⟨_,List.getElem?_eq_getElem hFl⟩
    have hfa:Hid (fileAt S.H.ma.st (F:Int) = p0.fi):=Lib.hid (fileAt_nat (by show (S.H.fi.map PF.fi)[F]? = _; rw [List.getElem?_map,hp0]; rfl))
    obtain ⟨bf,of,hai,hrd⟩:=elemR pfL_len (by decide) h2.ma.rd.st.rd F hFl
    have hai:S.H.ai = some ⟨bf,of,none⟩:=hai
    have hrd:RdV w2 (some ⟨bf,of + F * 2,none⟩) (pfL p0):=by rw [← (List.getElem?_eq_some_iff.1 hp0).2]; exact hrd
    have rc1:∀ W,Below w2.heap.size w2 W → W.cell? ⟨bf,of + F * 2 + 1,none⟩ = some (.slice p0.a p0.l.length p0.c):=fun W hb=>by
     obtain ⟨b',o',e,hcc⟩:=(hrd.below hb) 1 _ rfl
     cases e
     exact hcc
    have hfi':=Lib.hid hfi
    clear hp0 hrd hfi
    go_upto_region 7 with (fail)
    by_cases hge:(p0.l.length:Int) ≤ (I:Int)
    ·skip
     refine wp_growP 15 [_,_,_,_,_,_,_,_,_,_,_,_,_,_,_] (Gf w.heap.size 5 rfl rfl (Gl bx2 rfl rfl rfl rfl rfl (Gk rfl (Gk rfl (Gf b 1 rfl rfl (Gf b 8 rfl rfl (Gf b 8 rfl rfl (Gl h2.blk (V:=.slice (some ⟨bf,of,none⟩) S.H.fi.length S.H.ci) (by simp [mkC,MW.lst,hai]) rfl rfl rfl rfl (Gf w.heap.size 4 rfl rfl (Gl bx2 rfl rfl rfl rfl rfl (Gr (.pointer (some ⟨bf,of + F * 2,none⟩)) (fun ρ y W hb hk=>(run_idx rfl (kx_at rfl hk) (kx_at rfl hk) hFl Try.underlying34 file_size)) rfl rfl (Gf bf (of + F * 2 + 1) rfl rfl (Gc (.slice p0.a p0.l.length p0.c) (fun W hb=>by simp [rc1 _ hb]) rfl rfl rfl rfl (Gn rfl rfl rfl rfl (Gb (.bool true) (by simp [go_sem,hge]) rfl rfl rfl rfl rfl (all_nil)))))))))))))))) (fun _=>rfl) rfl ?_
     intro y W3 hbW3 _
     have h3:=h2.below hbW3
     have s3:=s2.below hbW3
     have bx3:=bx2.ext hbW3
     clear h2 s2 bx2 hcx hbW3 rc1 hai
     have hcx:=bx3.cell
     go_wp2
     refine bodyPost_ret (v:=.tuple #[]) (by simp [results,go_sem,Try.results76]) rfl ?_
     exact ⟨_,rfl,h3,s3,⟨rfl,rfl,rfl,rfl,rfl,rfl⟩,hd'.out,fun _ _ _=>rfl⟩
    ·skip
     refine wp_growP 15 [_,_,_,_,_,_,_,_,_,_,_,_,_,_,_] (Gf w.heap.size 5 rfl rfl (Gl bx2 rfl rfl rfl rfl rfl (Gk rfl (Gk rfl (Gf b 1 rfl rfl (Gf b 8 rfl rfl (Gf b 8 rfl rfl (Gl h2.blk (V:=.slice (some ⟨bf,of,none⟩) S.H.fi.length S.H.ci) (by simp [mkC,MW.lst,hai]) rfl rfl rfl rfl (Gf w.heap.size 4 rfl rfl (Gl bx2 rfl rfl rfl rfl rfl (Gr (.pointer (some ⟨bf,of + F * 2,none⟩)) (fun ρ y W hb hk=>(run_idx rfl (kx_at rfl hk) (kx_at rfl hk) hFl Try.underlying34 file_size)) rfl rfl (Gf bf (of + F * 2 + 1) rfl rfl (Gc (.slice p0.a p0.l.length p0.c) (fun W hb=>by simp [rc1 _ hb]) rfl rfl rfl rfl (Gn rfl rfl rfl rfl (Gb (.bool false) (by simp [go_sem,hge]) rfl rfl rfl rfl rfl (all_nil)))))))))))))))) (fun _=>rfl) rfl ?_
     intro y W3 hbW3 _
     have h3:=h2.below hbW3
     have s3:=s2.below hbW3
     have bx3:=bx2.ext hbW3
     clear h2 s2 bx2 hcx hbW3 rc1 hai
     have hcx:=bx3.cell
     go_wp2_with fail
     refine (rcached_any _ F I B b _ h3 hd'.out ⟨⟨by omega,by simp [MH.ma,stOf,MW.lst]; omega⟩,by omega,by show (I:Int) < (fileAt S.H.ma.st (F:Int)).b.length; rw [hfa.out]; show (I:Int) < p0.l.length; omega⟩).mono ?_
     rintro r w4 ⟨x3,S3,rfl,h4,s4,k4,t4,bd4,hx4⟩
     have bx4:=s4.blkN bx3 hn0.out
     have hn4:=Lib.hid (s4.not bx3.lt hn0.out)
     have s4:=s3.trans s4
     clear h3 s3 bx3 hcx
     have hcx:=bx4.cell
     rcases hx4 with rfl | ⟨c,hcm,hcf,hci,rfl⟩
     ·go_wp2
      refine bodyPost_ret (v:=.tuple #[]) (by simp [results,go_sem,Try.results76]) rfl ?_
      exact ⟨S3,rfl,h4,s4,⟨k4.sp,k4.fi,k4.ct,k4.dk,k4.fl,k4.sl⟩,bd4,fun _ _ _=>by rw [t4]; rfl⟩
     ·have hlt:=bd4.rt.ca.lt c hcm
      obtain ⟨f,hfk⟩:=Int.eq_ofNat_of_zero_le hlt.1
      have hfl:f < S3.H.m.fs.length:=by have e:((fullM S3.H.ma S3.T).m.fs.length:Nat) = S3.H.m.fs.length:=rfl; omega
      have hcm':=Lib.hid (And.intro hcm (And.intro hcf hci))
      have hfk':=Lib.hid hfk
      rw [hfk]
      clear hlt hcm hcf hci hfk
      obtain ⟨gf,off,cap,cur,hv,hgB,hgk,hgs,hgc,hgw⟩:=h4.ma.fr.put frL_len (by decide) f hfl
      have haf:S3.H.af = some ⟨gf,off,none⟩:=(Value.slice.inj hv).1
      have hX:Hid (frN S3.H.ma f = S3.H.m.fs[f]):=Lib.hid (by
       unfold frN
       show S3.H.m.fs.getD f fr0 = _
       rw [List.getD_eq_getElem?_getD,List.getElem?_eq_getElem (by omega)]; rfl)
      have hr0:=bd4.rt.fewR (f:=f) hfl
      have hr1:0 ≤ (S3.H.m.fs[f]).r ∧ (S3.H.m.fs[f]).r ≤ 257:=by rw [← hX.out]; exact hr0
      have c8:w4.cell? ⟨gf,off + f * 13 + 8,none⟩ = some (.int .i64 (S3.H.m.fs[f]).r):=hgc 8 _ rfl
      have hgw':=Lib.hid hgw
      have hgc':=Lib.hid hgc
      clear hv hgw hgc hr0
      generalize S3.H.m.fs[f] = X at c8 hX hr1 hgc'
      have hc:=h4.blk.cell
      unfold mkC at hc
      rw [haf] at hc
      have hwr:IntKind.i64.wrap (X.r + 1) = X.r + 1:=IntWalk.i64_in _ (by omega)
      have hfi2:(f:Int) < (S3.H.m.fs.length:Int):=by omega
      go_wp2_with (refine wpList_stv rfl _ _ _ rfl gf (off + f * 13 + 8) _ [.int .i64 (X.r + 1)] rfl rfl rfl _ _ hgk (by show off + f * 13 + 8 + 1 ≤ cur.size; omega) (by kernel_rfl) (fun u hu=>by cases List.mem_singleton.1 hu; rfl) ?_)
      intro w5 hb5 hg5
      rw [upFr_put (by omega) (fun j u hj=>by rw [← hgk.cell]; exact hgc'.out j u hj)] at hb5
      have h5:MkO w5 B b (S3.frs (S3.H.m.fs.set f (upFr X))):=h4.putF hgk hgB hg5 (fs:=S3.H.m.fs.set f (upFr X)) (by simp) (by simpa using hgw'.out _ _ hb5)
      have hkaf:kbM b S3 gf:=.inr (by simp only [klM,haf]; exact List.mem_cons_self)
      have s5:=s4.put (H':=S3.frs (S3.H.m.fs.set f (upFr X))) hg5 hkaf (fun x hx => .inl hx)
      have bx5:=bx4.grown hg5 (fun e=>hn4.out (by rw [← Option.some.inj e]; exact hkaf))
      have hn5:Hid (¬ kbM b (S3.frs (S3.H.m.fs.set f (upFr X))) w.heap.size):=hn4
      have hTl:S3.T.length = S.H.sp.length:=by have:=bd4.ok.len; rw [this]; show (S3.H.sp.map PS.sp).length = _; rw [List.length_map,k4.sp]; rfl
      have hpT:p < S3.T.length:=by omega
      have hTn:∀ (S' : MW),S'.T = S3.T → (lstT S'.T p).length = 64:=fun S' e=>by rw [e]; exact bd4.ok.l64 (by rw [← bd4.ok.len]; exact hpT)
      have hsp4:spN S3.H.ma p = spN S.H.ma p:=by
       show (S3.H.sp.map PS.sp).getD p zSp = (S.H.sp.map PS.sp).getD p zSp
       rw [k4.sp]; rfl
      have hp4:p < S3.H.ma.sp.length:=by show p < (S3.H.sp.map PS.sp).length; rw [List.length_map,k4.sp]; exact hp
      have hbdu:Hid (∀ u:Bool,(u = true → gsh = true ∧ gwr = true) → Bd (S3.frs (S3.H.m.fs.set f (upFr X))).H.ma (setL (S3.frs (S3.H.m.fs.set f (upFr X))).T p n ⟨1,f,u⟩)):=Lib.hid fun u hu=>by
       have h9:=bd4.cachedE (w:=u) hp4 hn (by rw [t4]; exact h0'.out) hcm'.out.1 (by rw [hsp4]; exact hg'.out) hcm'.out.2 hu
       rw [hfk'.out,Int.toNat_natCast,hX.out] at h9
       exact h9
      have hK5:Hid (Kep S (S3.frs (S3.H.m.fs.set f (upFr X)))):=Lib.hid ⟨k4.sp,k4.fi,k4.ct,k4.dk,by show (S3.H.m.fs.set f (upFr X)).length = _; rw [List.length_set]; exact k4.fl,k4.sl⟩
      have hent5:Hid (∀ x q j,¬ (q = p ∧ j = n) → entT (setL (S3.frs (S3.H.m.fs.set f (upFr X))).T p n x) q j = entT S.T q j):=Lib.hid fun x q j hne=>by
       show entT (setL S3.T p n x) q j = _
       rw [entT_set bd4.ok hp4 hn,if_neg hne,t4]; rfl
      have hpT5:Hid (p < (S3.frs (S3.H.m.fs.set f (upFr X))).T.length):=Lib.hid hpT
      have hTn5:Hid (∀ S' : MW,S'.T = (S3.frs (S3.H.m.fs.set f (upFr X))).T → (lstT S'.T p).length = 64):=Lib.hid hTn
      generalize S3.frs (S3.H.m.fs.set f (upFr X)) = S5 at *
      obtain ⟨gT,oT,_,hab,_⟩:=MkO.ent (S:=S5) h5 (p:=p) (n:=n) hpT5.out hn (hTn5.out _ rfl)
      clear hsp4 hp4 hpT hTn hTl
      clear h4 s4 bx4 hcx hc c8 hb5 hg5 hgk hgc' hgw' hgs haf
      go_upto_region 11 with (fail)
      cases gsh with
      | true=>cases gwr with
       | true=>
        skip
        refine wp_growPQ 20 [_,_,_,.v (.slice (some ⟨gT,oT,none⟩) S5.T.length S5.cb),_,.v (.int .i64 (n:Int)),_,_,.v (.bool true),_,_,.v (.bool true),_,_,_,.r 15 ((fixR fun v => ∃ x:Int,v = .int .i64 x ∧ 0 ≤ x)),.r 16 ((fixR fun v => ∃ u,v = .bool u)),.r 17 ((fixR fun v => ∃ u,(u = true → true = true) ∧ v = .bool u)),.r 18 ((fixR fun v => ∃ u,(u = true → true = true) ∧ v = .agg #[.int .i64 1,.int .i64 (f:Int),.bool u])),_] (jPk S5 B b w5 [(w.heap.size,#[.bool true,.bool grd,.bool true,.bool true,.int .i64 (F:Int),.int .i64 (I:Int)],106)]) jPk_st (fun _=>⟨S5.al,S5.cl,S5.l,h5,MS.refl _ _ _,by simpa using ⟨bx5,hn5.out⟩⟩) (Qk jPk_st rfl (Qk jPk_st rfl (Qf jPk_st b 12 rfl rfl (all_cons ?_ (Qk jPk_st rfl (Qk jPk_st rfl (Qk jPk_st rfl (Qf jPk_st w.heap.size 3 rfl rfl (all_cons ?_ (Qk jPk_st rfl (Qf jPk_st w.heap.size 2 rfl rfl (all_cons ?_ (Qk jPk_st rfl (Qk jPk_st rfl (Qk jPk_st rfl (all_cons ?_ (all_cons ?_ (all_cons ?_ (all_cons ?_ (Qr jPk_st (.pointer (some ⟨gT,oT + p * 192,none⟩)) (fun ρ y W hk=>(run_idx rfl (kx_at rfl hk) (kx_at rfl hk) hpT5.out Try.underlying87 ents_size)) rfl rfl (all_nil))))))))))))))))))))) (fun _=>rfl) rfl ?_
        ·intro ρ y W L hw hn hLi hLd hb hd
         refine askQ jPk_st (fun _ _ h=>h) hb ?_
         have E94:=hw 94 2 rfl
         have h2:y 2 = _:=hd 2 rfl
         obtain ⟨a,c,l,m1,m2,m3⟩:=hb
         refine asked_val (.slice (some ⟨gT,oT,none⟩) S5.T.length S5.cb) (want_free rfl) (by simp [execOp,go_sem,E94,h2,m1.blk.cell,mkC,MW.lst,hab]) rfl
        ·intro ρ y W L hw hn hLi hLd hb hd
         refine askQ jPk_st (fun _ _ h=>h) hb ?_
         have E99:=hw 99 7 rfl
         have h7:y 7 = _:=hd 7 rfl
         obtain ⟨a,c,l,m1,m2,m3⟩:=hb
         have m3:=(m3 _ (List.mem_singleton.2 rfl)).1
         refine asked_val (.bool true) (want_free rfl) (by simp [execOp,go_sem,E99,h7,m3.cell]) rfl
        ·intro ρ y W L hw hn hLi hLd hb hd
         refine askQ jPk_st (fun _ _ h=>h) hb ?_
         have E102:=hw 102 10 rfl
         have h10:y 10 = _:=hd 10 rfl
         obtain ⟨a,c,l,m1,m2,m3⟩:=hb
         have m3:=(m3 _ (List.mem_singleton.2 rfl)).1
         refine asked_val (.bool true) (want_at 9 101 true true rfl rfl ((hw 101 9 rfl).trans (hd 9 rfl))) (by simp [execOp,go_sem,E102,h10,m3.cell]) rfl
        ·intro ρ y W L hw hn hLi hLd hb hd; have E106:=hw 106 14 rfl; have h14:y 14 = _:=hd 14 rfl
         have EC:∀ v,ρ (.const v) = v:=fun v=>hn (.const v) trivial
         have EF:∀ f,ρ (.func f) = .func (.func f) #[] #[]:=fun f=>hn (.func f) trivial
         refine asked_callQ _ _ (want_at 13 105 true true rfl rfl ((hw 105 13 rfl).trans (hd 13 rfl))) (run_call rfl (EF _) Try.func28 (by kernel_rfl) (by kernel_rfl) (by simp only [List.map_toArray,List.map_cons,List.map_nil,E106,h14,EC,EF]; rfl)) ?_
         exact jPk_pick 2 (by omega) hb fun x h1 _ _ _=>⟨x,rfl,h1⟩
        ·intro ρ y W L hw hn hLi hLd hb hd
         refine askQ jPk_st (fun _ _ h=>h) hb ?_
         have E107:=hw 107 15 rfl
         have h15:=hd 15 rfl
         obtain ⟨x,hx,_⟩:=h15
         refine asked_val _ (want_at 13 105 true true rfl rfl ((hw 105 13 rfl).trans (hd 13 rfl))) (run_bin rfl (E107.trans hx) (hn (.const _) trivial) (by simp [go_sem]; rfl)) ⟨_,rfl⟩
        ·intro ρ y W L hw hn hLi hLd hb hd
         refine askQ jPk_st (fun _ _ h=>h) hb ?_
         have E105:=hw 105 13 rfl
         have h13:y 13 = _:=hd 13 rfl
         have E108:=hw 108 16 rfl
         have h16:=hd 16 rfl
         obtain ⟨u,hu⟩:=h16
         refine asked_val (.bool u) (want_free rfl) (run_pick rfl (E105.trans h13) (by simpa using E108.trans hu)) ⟨_,fun _=>rfl,rfl⟩
        ·intro ρ y W L hw hn hLi hLd hb hd
         refine askQ jPk_st (fun _ _ h=>h) hb ?_
         have E98:=hw 98 6 rfl
         have h6:y 6 = _:=hd 6 rfl
         have E109:=hw 109 17 rfl
         have h17:=hd 17 rfl
         obtain ⟨u,hu1,hu⟩:=h17
         have EC:∀ v,ρ (.const v) = v:=fun v=>hn (.const v) trivial
         refine asked_val (.agg #[.int .i64 1,.int .i64 (f:Int),.bool u]) (want_free rfl) (by simp [execOp,go_sem,E98,h6,E109,EC,hu]) ⟨u,hu1,rfl⟩
        intro y W6 hbW6 hRW6
        have hy15:((fixR fun v => ∃ x:Int,v = .int .i64 x ∧ 0 ≤ x)).r (y 15) W6:=hRW6 15 (by decide)
        have hy16:((fixR fun v => ∃ u,v = .bool u)).r (y 16) W6:=hRW6 16 (by decide)
        have hy17:((fixR fun v => ∃ u,(u = true → true = true) ∧ v = .bool u)).r (y 17) W6:=hRW6 17 (by decide)
        have hy18:((fixR fun v => ∃ u,(u = true → true = true) ∧ v = .agg #[.int .i64 1,.int .i64 (f:Int),.bool u])).r (y 18) W6:=hRW6 18 (by decide)
        clear hRW6
        obtain ⟨a6,c6,l6,h6,s6,_⟩:=hbW6
        obtain ⟨u,hu1,hu⟩:=hy18
        rw [hu]
        clear hu
        obtain ⟨gT',oT',curT,hab',hgTB,hgT,hgTs,_,hgTw⟩:=MkO.ent (S:=S5.lst a6 c6 l6) h6 (p:=p) (n:=n) hpT5.out hn (hTn5.out _ rfl)
        have e9:(some (⟨gT',oT',none⟩:Addr)) = some ⟨gT,oT,none⟩:=hab'.symm.trans hab
        cases e9
        have hpTi:(p:Int) < (S5.T.length:Int):=by have:=hpT5.out; omega
        have hni:(n:Int) < 64:=by omega
        have hgTw':=Lib.hid hgTw
        have s6:=s5.trans s6
        clear hgTw hab' h5 s5
        go_wp2_with (refine wpList_stv rfl _ _ _ rfl gT (oT + p * 192 + n * 3) _ (enL ⟨1,f,u⟩) rfl rfl rfl _ _ hgT (by rw [enL_len]; exact hgTs) (by kernel_rfl) (one_toList (enC_one _)) ?_)
        intro w7 hb7 hg7
        have h7:=hgTw'.out w7 ⟨1,f,u⟩ hb7 hg7
        have s7:=s6.put (H':={ S5.lst a6 c6 l6 with T:=setL (S5.lst a6 c6 l6).T p n ⟨1,f,u⟩ }) hg7 (.inr (by simp only [klM,MW.lst,hab]; simp [oB]; right; right; right; right; right; right; right; right; rfl)) (fun x hx => .inl hx)
        clear hgT hb7 hg7 h6 s6
        go_wp2
        refine bodyPost_ret (v:=.tuple #[]) (by simp [results,go_sem,Try.results76]) rfl ?_
        exact ⟨_,rfl,h7,s7,⟨hK5.out.sp,hK5.out.fi,hK5.out.ct,hK5.out.dk,hK5.out.fl,hK5.out.sl⟩,hbdu.out u (fun h=>by first | exact trivial | exact ⟨rfl,rfl⟩ | exact absurd (hu1 h) (by decide) | simp),hent5.out _⟩
       | false=>
        skip
        refine wp_growPQ 20 [_,_,_,.v (.slice (some ⟨gT,oT,none⟩) S5.T.length S5.cb),_,.v (.int .i64 (n:Int)),_,_,.v (.bool true),_,_,.v (.bool false),_,_,_,_,_,.r 17 ((fixR fun v => ∃ u,(u = true → false = true) ∧ v = .bool u)),.r 18 ((fixR fun v => ∃ u,(u = true → false = true) ∧ v = .agg #[.int .i64 1,.int .i64 (f:Int),.bool u])),_] (jPk S5 B b w5 [(w.heap.size,#[.bool true,.bool grd,.bool false,.bool true,.int .i64 (F:Int),.int .i64 (I:Int)],106)]) jPk_st (fun _=>⟨S5.al,S5.cl,S5.l,h5,MS.refl _ _ _,by simpa using ⟨bx5,hn5.out⟩⟩) (Qk jPk_st rfl (Qk jPk_st rfl (Qf jPk_st b 12 rfl rfl (all_cons ?_ (Qk jPk_st rfl (Qk jPk_st rfl (Qk jPk_st rfl (Qf jPk_st w.heap.size 3 rfl rfl (all_cons ?_ (Qk jPk_st rfl (Qf jPk_st w.heap.size 2 rfl rfl (all_cons ?_ (Qk jPk_st rfl (Qk jPk_st rfl (Qk jPk_st rfl (Qk jPk_st rfl (Qk jPk_st rfl (all_cons ?_ (all_cons ?_ (Qr jPk_st (.pointer (some ⟨gT,oT + p * 192,none⟩)) (fun ρ y W hk=>(run_idx rfl (kx_at rfl hk) (kx_at rfl hk) hpT5.out Try.underlying87 ents_size)) rfl rfl (all_nil))))))))))))))))))))) (fun _=>rfl) rfl ?_
        ·intro ρ y W L hw hn hLi hLd hb hd
         refine askQ jPk_st (fun _ _ h=>h) hb ?_
         have E94:=hw 94 2 rfl
         have h2:y 2 = _:=hd 2 rfl
         obtain ⟨a,c,l,m1,m2,m3⟩:=hb
         refine asked_val (.slice (some ⟨gT,oT,none⟩) S5.T.length S5.cb) (want_free rfl) (by simp [execOp,go_sem,E94,h2,m1.blk.cell,mkC,MW.lst,hab]) rfl
        ·intro ρ y W L hw hn hLi hLd hb hd
         refine askQ jPk_st (fun _ _ h=>h) hb ?_
         have E99:=hw 99 7 rfl
         have h7:y 7 = _:=hd 7 rfl
         obtain ⟨a,c,l,m1,m2,m3⟩:=hb
         have m3:=(m3 _ (List.mem_singleton.2 rfl)).1
         refine asked_val (.bool true) (want_free rfl) (by simp [execOp,go_sem,E99,h7,m3.cell]) rfl
        ·intro ρ y W L hw hn hLi hLd hb hd
         refine askQ jPk_st (fun _ _ h=>h) hb ?_
         have E102:=hw 102 10 rfl
         have h10:y 10 = _:=hd 10 rfl
         obtain ⟨a,c,l,m1,m2,m3⟩:=hb
         have m3:=(m3 _ (List.mem_singleton.2 rfl)).1
         refine asked_val (.bool false) (want_at 9 101 true true rfl rfl ((hw 101 9 rfl).trans (hd 9 rfl))) (by simp [execOp,go_sem,E102,h10,m3.cell]) rfl
        ·intro ρ y W L hw hn hLi hLd hb hd
         refine askQ jPk_st (fun _ _ h=>h) hb ?_
         have E105:=hw 105 13 rfl
         have h13:y 13 = _:=hd 13 rfl
         have E108:=hw 108 16 rfl
         have h16:y 16 = _:=hd 16 rfl
         refine asked_val (.bool false) (want_free rfl) (run_pick rfl (E105.trans h13) (by exact (hn (.const _) trivial).trans rfl)) ⟨false,fun h=>(by cases h),rfl⟩
        ·intro ρ y W L hw hn hLi hLd hb hd
         refine askQ jPk_st (fun _ _ h=>h) hb ?_
         have E98:=hw 98 6 rfl
         have h6:y 6 = _:=hd 6 rfl
         have E109:=hw 109 17 rfl
         have h17:=hd 17 rfl
         obtain ⟨u,hu1,hu⟩:=h17
         have EC:∀ v,ρ (.const v) = v:=fun v=>hn (.const v) trivial
         refine asked_val (.agg #[.int .i64 1,.int .i64 (f:Int),.bool u]) (want_free rfl) (by simp [execOp,go_sem,E98,h6,E109,EC,hu]) ⟨u,hu1,rfl⟩
        intro y W6 hbW6 hRW6
        have hy17:((fixR fun v => ∃ u,(u = true → false = true) ∧ v = .bool u)).r (y 17) W6:=hRW6 17 (by decide)
        have hy18:((fixR fun v => ∃ u,(u = true → false = true) ∧ v = .agg #[.int .i64 1,.int .i64 (f:Int),.bool u])).r (y 18) W6:=hRW6 18 (by decide)
        clear hRW6
        obtain ⟨a6,c6,l6,h6,s6,_⟩:=hbW6
        obtain ⟨u,hu1,hu⟩:=hy18
        rw [hu]
        clear hu
        obtain ⟨gT',oT',curT,hab',hgTB,hgT,hgTs,_,hgTw⟩:=MkO.ent (S:=S5.lst a6 c6 l6) h6 (p:=p) (n:=n) hpT5.out hn (hTn5.out _ rfl)
        have e9:(some (⟨gT',oT',none⟩:Addr)) = some ⟨gT,oT,none⟩:=hab'.symm.trans hab
        cases e9
        have hpTi:(p:Int) < (S5.T.length:Int):=by have:=hpT5.out; omega
        have hni:(n:Int) < 64:=by omega
        have hgTw':=Lib.hid hgTw
        have s6:=s5.trans s6
        clear hgTw hab' h5 s5
        go_wp2_with (refine wpList_stv rfl _ _ _ rfl gT (oT + p * 192 + n * 3) _ (enL ⟨1,f,u⟩) rfl rfl rfl _ _ hgT (by rw [enL_len]; exact hgTs) (by kernel_rfl) (one_toList (enC_one _)) ?_)
        intro w7 hb7 hg7
        have h7:=hgTw'.out w7 ⟨1,f,u⟩ hb7 hg7
        have s7:=s6.put (H':={ S5.lst a6 c6 l6 with T:=setL (S5.lst a6 c6 l6).T p n ⟨1,f,u⟩ }) hg7 (.inr (by simp only [klM,MW.lst,hab]; simp [oB]; right; right; right; right; right; right; right; right; rfl)) (fun x hx => .inl hx)
        clear hgT hb7 hg7 h6 s6
        go_wp2
        refine bodyPost_ret (v:=.tuple #[]) (by simp [results,go_sem,Try.results76]) rfl ?_
        exact ⟨_,rfl,h7,s7,⟨hK5.out.sp,hK5.out.fi,hK5.out.ct,hK5.out.dk,hK5.out.fl,hK5.out.sl⟩,hbdu.out u (fun h=>by first | exact trivial | exact ⟨rfl,rfl⟩ | exact absurd (hu1 h) (by decide) | simp),hent5.out _⟩
      | false=>
       skip
       refine wp_growPQ 20 [_,_,_,.v (.slice (some ⟨gT,oT,none⟩) S5.T.length S5.cb),_,.v (.int .i64 (n:Int)),_,_,.v (.bool false),_,_,_,_,_,_,_,_,.r 17 ((fixR fun v => ∃ u,(u = true → false = true) ∧ v = .bool u)),.r 18 ((fixR fun v => ∃ u,(u = true → false = true) ∧ v = .agg #[.int .i64 1,.int .i64 (f:Int),.bool u])),_] (jPk S5 B b w5 [(w.heap.size,#[.bool true,.bool grd,.bool gwr,.bool false,.int .i64 (F:Int),.int .i64 (I:Int)],106)]) jPk_st (fun _=>⟨S5.al,S5.cl,S5.l,h5,MS.refl _ _ _,by simpa using ⟨bx5,hn5.out⟩⟩) (Qk jPk_st rfl (Qk jPk_st rfl (Qf jPk_st b 12 rfl rfl (all_cons ?_ (Qk jPk_st rfl (Qk jPk_st rfl (Qk jPk_st rfl (Qf jPk_st w.heap.size 3 rfl rfl (all_cons ?_ (Qk jPk_st rfl (Qk jPk_st rfl (Qk jPk_st rfl (Qk jPk_st rfl (Qk jPk_st rfl (Qk jPk_st rfl (Qk jPk_st rfl (Qk jPk_st rfl (all_cons ?_ (all_cons ?_ (Qr jPk_st (.pointer (some ⟨gT,oT + p * 192,none⟩)) (fun ρ y W hk=>(run_idx rfl (kx_at rfl hk) (kx_at rfl hk) hpT5.out Try.underlying87 ents_size)) rfl rfl (all_nil))))))))))))))))))))) (fun _=>rfl) rfl ?_
       ·intro ρ y W L hw hn hLi hLd hb hd
        refine askQ jPk_st (fun _ _ h=>h) hb ?_
        have E94:=hw 94 2 rfl
        have h2:y 2 = _:=hd 2 rfl
        obtain ⟨a,c,l,m1,m2,m3⟩:=hb
        refine asked_val (.slice (some ⟨gT,oT,none⟩) S5.T.length S5.cb) (want_free rfl) (by simp [execOp,go_sem,E94,h2,m1.blk.cell,mkC,MW.lst,hab]) rfl
       ·intro ρ y W L hw hn hLi hLd hb hd
        refine askQ jPk_st (fun _ _ h=>h) hb ?_
        have E99:=hw 99 7 rfl
        have h7:y 7 = _:=hd 7 rfl
        obtain ⟨a,c,l,m1,m2,m3⟩:=hb
        have m3:=(m3 _ (List.mem_singleton.2 rfl)).1
        refine asked_val (.bool false) (want_free rfl) (by simp [execOp,go_sem,E99,h7,m3.cell]) rfl
       ·intro ρ y W L hw hn hLi hLd hb hd
        refine askQ jPk_st (fun _ _ h=>h) hb ?_
        have E105:=hw 105 13 rfl
        have h13:y 13 = _:=hd 13 rfl
        have E108:=hw 108 16 rfl
        have h16:y 16 = _:=hd 16 rfl
        refine asked_val (.bool false) (want_free rfl) (run_pick rfl (E105.trans h13) (by exact (hn (.const _) trivial).trans rfl)) ⟨false,fun h=>(by cases h),rfl⟩
       ·intro ρ y W L hw hn hLi hLd hb hd
        refine askQ jPk_st (fun _ _ h=>h) hb ?_
        have E98:=hw 98 6 rfl
        have h6:y 6 = _:=hd 6 rfl
        have E109:=hw 109 17 rfl
        have h17:=hd 17 rfl
        obtain ⟨u,hu1,hu⟩:=h17
        have EC:∀ v,ρ (.const v) = v:=fun v=>hn (.const v) trivial
        refine asked_val (.agg #[.int .i64 1,.int .i64 (f:Int),.bool u]) (want_free rfl) (by simp [execOp,go_sem,E98,h6,E109,EC,hu]) ⟨u,hu1,rfl⟩
       intro y W6 hbW6 hRW6
       have hy17:((fixR fun v => ∃ u,(u = true → false = true) ∧ v = .bool u)).r (y 17) W6:=hRW6 17 (by decide)
       have hy18:((fixR fun v => ∃ u,(u = true → false = true) ∧ v = .agg #[.int .i64 1,.int .i64 (f:Int),.bool u])).r (y 18) W6:=hRW6 18 (by decide)
       clear hRW6
       obtain ⟨a6,c6,l6,h6,s6,_⟩:=hbW6
       obtain ⟨u,hu1,hu⟩:=hy18
       rw [hu]
       clear hu
       obtain ⟨gT',oT',curT,hab',hgTB,hgT,hgTs,_,hgTw⟩:=MkO.ent (S:=S5.lst a6 c6 l6) h6 (p:=p) (n:=n) hpT5.out hn (hTn5.out _ rfl)
       have e9:(some (⟨gT',oT',none⟩:Addr)) = some ⟨gT,oT,none⟩:=hab'.symm.trans hab
       cases e9
       have hpTi:(p:Int) < (S5.T.length:Int):=by have:=hpT5.out; omega
       have hni:(n:Int) < 64:=by omega
       have hgTw':=Lib.hid hgTw
       have s6:=s5.trans s6
       clear hgTw hab' h5 s5
       go_wp2_with (refine wpList_stv rfl _ _ _ rfl gT (oT + p * 192 + n * 3) _ (enL ⟨1,f,u⟩) rfl rfl rfl _ _ hgT (by rw [enL_len]; exact hgTs) (by kernel_rfl) (one_toList (enC_one _)) ?_)
       intro w7 hb7 hg7
       have h7:=hgTw'.out w7 ⟨1,f,u⟩ hb7 hg7
       have s7:=s6.put (H':={ S5.lst a6 c6 l6 with T:=setL (S5.lst a6 c6 l6).T p n ⟨1,f,u⟩ }) hg7 (.inr (by simp only [klM,MW.lst,hab]; simp [oB]; right; right; right; right; right; right; right; right; rfl)) (fun x hx => .inl hx)
       clear hgT hb7 hg7 h6 s6
       go_wp2
       refine bodyPost_ret (v:=.tuple #[]) (by simp [results,go_sem,Try.results76]) rfl ?_
       exact ⟨_,rfl,h7,s7,⟨hK5.out.sp,hK5.out.fi,hK5.out.ct,hK5.out.dk,hK5.out.fl,hK5.out.sl⟩,hbdu.out u (fun h=>by first | exact trivial | exact ⟨rfl,rfl⟩ | exact absurd (hu1 h) (by decide) | simp),hent5.out _⟩
   ·rw [decide_eq_false hF]
    obtain rfl:gsh = false:=by
     cases gsh with
     | false=>rfl
     | true=>exact absurd ⟨hsh rfl,.inl rfl⟩ hF
    have hfew:=Lib.hid hd'.out.few
    have hsl60:S.H.sl.length ≤ 60:=hfew.out.2.1
    have hc:=h2.blk.cell
    unfold mkC at hc
    dsimp only [MW.lst] at hc
    clear hF hsh
    go_upto_region 12 with (fail)
    go_cut [113] (fun s113 wx=>s113 = .bool (decide (x = 2 ∧ 0 < S.H.sl.length)) ∧ wx = w2)
    case first=>
     by_cases hx2:x = 2
     ·have hx2b:(x == 2) = true:=by simp [hx2]
      have hx2':=Lib.hid hx2
      clear hx2
      by_cases hsl:0 < S.H.sl.length
      ·have hsli:(0:Int) < (S.H.sl.length:Int):=by omega
       go_wp2
       go_meet
       case rel=>exact ⟨by rw [decide_eq_true ⟨hx2'.out,hsl⟩],rfl⟩
      ·have hsli:¬ (0:Int) < (S.H.sl.length:Int):=by omega
       go_wp2
       go_meet
       case rel=>exact ⟨by rw [decide_eq_false (fun h=>hsl h.2)],rfl⟩
     ·have hx2b:(x == 2) = false:=by simp [hx2]
      go_wp2
      go_meet
      case rel=>exact ⟨by rw [decide_eq_false (fun h=>hx2 h.1)],rfl⟩
    case rest=>
     obtain ⟨rfl,hwc⟩:=hcut
     subst wc
     by_cases hS:x = 2 ∧ 0 < S.H.sl.length
     ·rw [decide_eq_true hS]
      have hsl:=hS.2
      clear hS
      go_wp2_with fail
      refine (rpick_any _ _ B b _ h2 (by omega)).mono ?_
      rintro r w3 ⟨y3,a3,c3,l3,rfl,h3,s3,hy3,_⟩
      rw [lst_two] at h3 s3
      have s3:=s2.trans s3
      obtain ⟨s0,rfl⟩:=Int.eq_ofNat_of_zero_le hy3.1
      have hs0:s0 < S.H.sl.length:=by omega
      have hs0i:(s0:Int) < (S.H.sl.length:Int):=by omega
      clear h2 s2 bx2 hcx hc hy3
      have hc:=h3.blk.cell
      unfold mkC at hc
      dsimp only [MW.lst] at hc
      obtain ⟨gs,off,cap,cur,hv,hgB,hgk,hgs,hgc,hgw⟩:=Own.put (enc:=fun x=>[inV x]) (sz:=1) (l:=S.H.sl) (fun _=>rfl) Nat.one_pos (by rw [flat_one]; exact h3.ma.sl) s0 hs0
      have has:S.H.asl = some ⟨gs,off,none⟩:=(Value.slice.inj hv).1
      rw [has] at hc
      rw [Nat.mul_one] at hgs hgc hgw
      have c0:w3.cell? ⟨gs,off + s0,none⟩ = some (.int .i64 S.H.sl[s0]):=hgc 0 _ rfl
      have hz0:Hid (slN S.H.ma s0 = S.H.sl[s0]):=Lib.hid (by
       unfold slN
       show S.H.sl.getD s0 0 = _
       rw [List.getD_eq_getElem?_getD,List.getElem?_eq_getElem hs0]; rfl)
      have hgw':=Lib.hid hgw
      clear hv hgw hgc
      generalize S.H.sl[s0] = v0 at c0 hz0
      by_cases hz:v0 = 0
      ·subst hz
       go_wp2_with (refine wpList_stv rfl _ _ _ rfl gs (off + s0) _ [.int .i64 1] rfl rfl rfl _ _ hgk (by show off + s0 + 1 ≤ cur.size; omega) (by kernel_rfl) (fun u hu=>by cases List.mem_singleton.1 hu; rfl) ?_)
       intro w4 hb4 hg4
       have hga:oB (S.lst a3 c3 l3).H.asl = some gs:=by show oB S.H.asl = some gs; rw [has]; rfl
       have h4:MkO w4 B b { S.lst a3 c3 l3 with H:={ S.H with sl:=S.H.sl.set s0 1 } }:=h3.putS hgk hgB hga hg4 (sl:=S.H.sl.set s0 1) (by simp [MW.lst]) (by
        have:=hgw'.out w4 1 hb4
        rw [flat_one] at this
        simpa [MW.lst] using this)
       have s4:=s3.put (H':={ S.lst a3 c3 l3 with H:={ S.H with sl:=S.H.sl.set s0 1 } }) hg4 (.inr (by simp [klM,hga])) (fun x hx => .inl hx)
       have hswl:S.H.sw.blocks.length = S.H.sl.length:=hfew.out.2.2.2.2.2.2.2
       have hK4:Hid (Kep S { S.lst a3 c3 l3 with H:={ S.H with sl:=S.H.sl.set s0 1 } }):=Lib.hid ⟨rfl,rfl,rfl,rfl,rfl,List.length_set⟩
       have hTl:S.T.length = S.H.sp.length:=by have:=hd'.out.ok.len; rw [this]; exact List.length_map _
       have hpT:p < S.T.length:=by omega
       have h64:(lstT S.T p).length = 64:=hd'.out.ok.l64 (by rw [← hd'.out.ok.len]; exact hpT)
       have hbdu:Hid (∀ P,Bd { S.H.ma with sl:=S.H.sl.set s0 1,sw:=⟨S.H.sw.blocks.set s0 P,S.H.sw.queue⟩ } (setL S.T p n ⟨2,s0,false⟩)):=Lib.hid fun P=>
        hd'.out.slotE (P:=P) (by rw [← hd'.out.ok.len]; exact hpT) hn h0'.out hs0 hz0.out hg'.out rfl
       have hent5:Hid (∀ x q j,¬ (q = p ∧ j = n) → entT (setL S.T p n x) q j = entT S.T q j):=Lib.hid fun x q j hne=>by
        rw [entT_set hd'.out.ok (by rw [← hd'.out.ok.len]; exact hpT) hn,if_neg hne]
       obtain ⟨gw,ow,capw,curw,hvw,hgwB,_,_,_,_⟩:=h4.ma.sw.b.put pgL_len (by decide) s0 (by show s0 < S.H.sw.blocks.length; omega)
       have haw:S.H.wb = some ⟨gw,ow,none⟩:=(Value.slice.inj hvw).1
       generalize hS4:({ S.lst a3 c3 l3 with H:={ S.H with sl:=S.H.sl.set s0 1 } }:MW) = S4 at h4 s4 hK4
       have haw:S4.H.wb = some ⟨gw,ow,none⟩:=by rw [← hS4]; exact haw
       have hsw4:S4.H.sw = S.H.sw:=by rw [← hS4]
       clear h3 s3 hb4 hg4 hgk hgs c0 hc has hga hvw
       go_upto_region 16 with (fail)
       refine wp_growPQ 9 [_,_,_,_,_,.v (.slice (some ⟨gw,ow,none⟩) S4.H.sw.blocks.length S4.H.cwb),.v (.int .i64 (s0:Int)),_,.r 8 ((fixR fun v => ∃ P,v = .agg (pgC P)))] (jPk S4 B b w4 []) jPk_st (fun _=>⟨S4.al,S4.cl,S4.l,h4,MS.refl _ _ _,fun t ht=>(by cases ht)⟩) (Qk jPk_st rfl (Qk jPk_st rfl (Qf jPk_st b 1 rfl rfl (Qf jPk_st b 4 rfl rfl (Qf jPk_st b 4 rfl rfl (all_cons ?_ (Qk jPk_st rfl (Qk jPk_st rfl (all_cons ?_ (all_nil)))))))))) (fun _=>rfl) rfl ?_
       ·intro ρ y W L hw hn hLi hLd hb hd
        refine askQ jPk_st (fun _ _ h=>h) hb ?_
        have E153:=hw 153 4 rfl
        have h4:y 4 = _:=hd 4 rfl
        obtain ⟨a,c,l,m1,m2,m3⟩:=hb
        refine asked_val (.slice (some ⟨gw,ow,none⟩) S4.H.sw.blocks.length S4.H.cwb) (want_free rfl) (by simp [execOp,go_sem,E153,h4,m1.blk.cell,mkC,MW.lst,haw]) rfl
       ·intro ρ y W L hw hn hLi hLd hb hd; have E156:=hw 156 7 rfl; have h7:y 7 = _:=hd 7 rfl
        have EF:∀ f,ρ (.func f) = .func (.func f) #[] #[]:=fun f=>hn (.func f) trivial
        refine asked_callQ _ _ (want_free rfl) (run_call rfl (EF _) Try.func31 (by kernel_rfl) (by kernel_rfl) (by simp only [List.map_toArray,List.map_cons,List.map_nil,E156,h7,EF]; rfl)) ?_
        exact jPk_page hb fun P _=>⟨P,rfl⟩
       intro y W6 hbW6 hRW6
       have hy8:((fixR fun v => ∃ P,v = .agg (pgC P))).r (y 8) W6:=hRW6 8 (by decide)
       clear hRW6
       obtain ⟨a6,c6,l6,h6,s6,_⟩:=hbW6
       obtain ⟨P,hP⟩:=hy8
       rw [hP]
       clear hP
       have s6:=s4.trans s6
       obtain ⟨gw',ow',capw',curw',hvw',hgwB',hgwk,hgws,_,hgww⟩:=h6.ma.sw.b.put pgL_len (by decide) s0 (by show s0 < S4.H.sw.blocks.length; rw [hsw4]; omega)
       have e9:(some (⟨gw',ow',none⟩:Addr)) = some ⟨gw,ow,none⟩:=(Value.slice.inj hvw').1.symm.trans haw
       cases e9
       have hsi:(s0:Int) < (S4.H.sw.blocks.length:Int):=by rw [hsw4]; omega
       have hgww':=Lib.hid hgww
       clear hvw' hgww h4 s4
       go_wp2_with (refine wpList_stv rfl _ _ _ rfl gw (ow + s0 * 8) _ (pgL P) rfl rfl rfl _ _ hgwk (by rw [pgL_len]; exact hgws) (by kernel_rfl) (one_toList (pgC_one P)) ?_)
       intro w7 hb7 hg7
       have hgaw:oB (S4.lst a6 c6 l6).H.wb = some gw:=by show oB S4.H.wb = some gw; rw [haw]; rfl
       have h7:MkO w7 B b { S4.lst a6 c6 l6 with H:={ S4.H with sw:=⟨S4.H.sw.blocks.set s0 P,S4.H.sw.queue⟩ } }:=h6.putW hgwk hgwB' hgaw hg7 (l:=S4.H.sw.blocks.set s0 P) (by simp [MW.lst]) (by simpa [MW.lst] using hgww'.out w7 P hb7)
       have s7:=s6.put (H':={ S4.lst a6 c6 l6 with H:={ S4.H with sw:=⟨S4.H.sw.blocks.set s0 P,S4.H.sw.queue⟩ } }) hg7 (.inr (by simp [klM,hgaw])) (fun x hx => .inl hx)
       clear h6 s6 hgwk hb7 hg7 hgws hsi
       subst hS4
       dsimp only [MW.lst] at h7 s7
       obtain ⟨gT,oT,curT,hab,hgTB,hgT,hgTs,_,hgTw⟩:=MkO.ent h7 (p:=p) (n:=n) hpT hn h64
       have hab:S.ab = some ⟨gT,oT,none⟩:=hab
       have hc:=h7.blk.cell
       unfold mkC at hc
       dsimp only at hc
       rw [hab] at hc
       have hpTi:(p:Int) < (S.T.length:Int):=by omega
       have hni:(n:Int) < 64:=by omega
       have hgTw':=Lib.hid hgTw
       clear hgTw
       go_wp2_with (refine wpList_stv rfl _ _ _ rfl gT (oT + p * 192 + n * 3) _ (enL ⟨2,s0,false⟩) rfl rfl rfl _ _ hgT (by rw [enL_len]; exact hgTs) (by kernel_rfl) (one_toList (enC_one _)) ?_)
       intro w8 hb8 hg8
       have h8:=hgTw'.out w8 ⟨2,s0,false⟩ hb8 hg8
       have s8:=s7.put hg8 (.inr (by simp only [klM,hab]; simp [oB]; right; right; right; right; right; right; right; right; rfl)) (fun x hx => .inl hx) (H':=_)
       clear h7 s7 hc hb8 hg8 hgT
       go_wp2
       refine bodyPost_ret (v:=.tuple #[]) (by simp [results,go_sem,Try.results76]) rfl ?_
       exact ⟨_,rfl,h8,s8.same rfl,⟨rfl,rfl,rfl,rfl,rfl,List.length_set⟩,hbdu.out P,hent5.out _⟩
      ·go_wp2
       refine bodyPost_ret (v:=.tuple #[]) (by simp [results,go_sem,Try.results76]) rfl ?_
       exact ⟨_,rfl,h3,s3,⟨rfl,rfl,rfl,rfl,rfl,rfl⟩,hd'.out,fun _ _ _=>rfl⟩
     ·rw [decide_eq_false hS]
      clear hS hc
      go_wp2_with fail
      refine (rpage_any _ B b _ h2).mono ?_
      rintro r w3 ⟨P,a3,c3,l3,rfl,h3,s3⟩
      rw [lst_two] at h3 s3
      have bx3:=s3.blkN bx2 hn0.out
      have s3:=s2.trans s3
      clear h2 s2 bx2 hcx
      have hcx:=bx3.cell
      unfold pgC
      go_wp2_with fail
      refine (rpick_any _ 2 B b _ h3 (by omega)).mono ?_
      rintro r w4 ⟨y3,a4,c4,l4,rfl,h4,s4,_,_⟩
      rw [lst_two] at h4 s4
      have bx4:=s4.blkN bx3 hn0.out
      have s4:=s3.trans s4
      clear h3 s3 bx3 hcx
      have hcx:=bx4.cell
      go_wp2_with fail
      refine (rframe_any _ ⟨P,1,y3 == 1,false,-1,0⟩ B b _ h4 (by have:=hfew.out.1; show S.H.m.fs.length ≤ 1000; have e:S.H.ma.m.fs.length = S.H.m.fs.length:=rfl; omega)).mono ?_
      rintro r w5 ⟨xf,a5,c5,l5,fs,rfl,h5,s5,hxf⟩
      rw [lst_two] at h5 s5
      have bx5:=s5.blkN bx4 hn0.out
      have hn5:=Lib.hid (s5.not bx4.lt hn0.out)
      have s5:=s4.trans s5
      clear h4 s4 bx4 hcx
      rcases hxf with ⟨rfl,rfl⟩ | ⟨f,rfl,hj,hjr,rfl⟩
      ·go_wp2
       refine bodyPost_ret (v:=.tuple #[]) (by simp [results,go_sem,Try.results76]) rfl ?_
       exact ⟨_,rfl,h5,s5,⟨rfl,rfl,rfl,rfl,rfl,rfl⟩,hd'.out,fun _ _ _=>rfl⟩
      ·have hjl:f < S.H.m.fs.length:=hj
       have hTl:S.T.length = S.H.sp.length:=by have:=hd'.out.ok.len; rw [this]; exact List.length_map _
       have hpT:p < S.T.length:=by omega
       have hbdu:Hid (∀ u:Bool,(u = true → gwr = true) → Bd ((S.lst a5 c5 l5).frs (S.H.m.fs.set f ⟨P,1,y3 == 1,false,-1,0⟩)).H.ma (setL ((S.lst a5 c5 l5).frs (S.H.m.fs.set f ⟨P,1,y3 == 1,false,-1,0⟩)).T p n ⟨1,f,u⟩)):=Lib.hid fun u hu=>
        hd'.out.anonE (X:=⟨P,1,y3 == 1,false,-1,0⟩) (w:=u) (by rw [← hd'.out.ok.len]; exact hpT) hn h0'.out hjl hjr ⟨rfl,rfl,rfl,rfl⟩ hg'.out rfl hu
       have hK5:Hid (Kep S ((S.lst a5 c5 l5).frs (S.H.m.fs.set f ⟨P,1,y3 == 1,false,-1,0⟩))):=Lib.hid ⟨rfl,rfl,rfl,rfl,List.length_set,rfl⟩
       have hent5:Hid (∀ x q j,¬ (q = p ∧ j = n) → entT (setL ((S.lst a5 c5 l5).frs (S.H.m.fs.set f ⟨P,1,y3 == 1,false,-1,0⟩)).T p n x) q j = entT S.T q j):=Lib.hid fun x q j hne=>by
        show entT (setL S.T p n x) q j = _
        rw [entT_set hd'.out.ok (by rw [← hd'.out.ok.len]; exact hpT) hn,if_neg hne]
       have hpT5:Hid (p < ((S.lst a5 c5 l5).frs (S.H.m.fs.set f ⟨P,1,y3 == 1,false,-1,0⟩)).T.length):=Lib.hid hpT
       have hTn5:Hid (∀ S' : MW,S'.T = ((S.lst a5 c5 l5).frs (S.H.m.fs.set f ⟨P,1,y3 == 1,false,-1,0⟩)).T → (lstT S'.T p).length = 64):=Lib.hid fun S' e=>by rw [e]; exact hd'.out.ok.l64 (by rw [← hd'.out.ok.len]; exact hpT)
       have h5:MkO w5 B b ((S.lst a5 c5 l5).frs (S.H.m.fs.set f ⟨P,1,y3 == 1,false,-1,0⟩)):=h5
       have s5:MS w b S w5 ((S.lst a5 c5 l5).frs (S.H.m.fs.set f ⟨P,1,y3 == 1,false,-1,0⟩)):=s5
       have hn5:Hid (¬ kbM b ((S.lst a5 c5 l5).frs (S.H.m.fs.set f ⟨P,1,y3 == 1,false,-1,0⟩)) w.heap.size):=hn5
       have hf0:(0:Int) ≤ (f:Int):=by omega
       clear hj hjr hpT hTl
       generalize (S.lst a5 c5 l5).frs (S.H.m.fs.set f ⟨P,1,y3 == 1,false,-1,0⟩) = S5 at *
       obtain ⟨gT,oT,_,hab,_⟩:=MkO.ent (S:=S5) h5 (p:=p) (n:=n) hpT5.out hn (hTn5.out _ rfl)
       go_upto_region 4 with (fail)
       cases gwr with
       | true=>
        skip
        refine wp_growPQ 16 [_,_,_,.v (.slice (some ⟨gT,oT,none⟩) S5.T.length S5.cb),_,.v (.int .i64 (n:Int)),_,_,.v (.bool true),_,_,.r 11 ((fixR fun v => ∃ x:Int,v = .int .i64 x ∧ 0 ≤ x)),.r 12 ((fixR fun v => ∃ u,v = .bool u)),.r 13 ((fixR fun v => ∃ u,(u = true → true = true) ∧ v = .bool u)),.r 14 ((fixR fun v => ∃ u,(u = true → true = true) ∧ v = .agg #[.int .i64 1,.int .i64 (f:Int),.bool u])),_] (jPk S5 B b w5 [(w.heap.size,#[.bool true,.bool grd,.bool true,.bool false,.int .i64 gfi,.int .i64 (I:Int)],106)]) jPk_st (fun _=>⟨S5.al,S5.cl,S5.l,h5,MS.refl _ _ _,by simpa using ⟨bx5,hn5.out⟩⟩) (Qk jPk_st rfl (Qk jPk_st rfl (Qf jPk_st b 12 rfl rfl (all_cons ?_ (Qk jPk_st rfl (Qk jPk_st rfl (Qk jPk_st rfl (Qf jPk_st w.heap.size 2 rfl rfl (all_cons ?_ (Qk jPk_st rfl (Qk jPk_st rfl (all_cons ?_ (all_cons ?_ (all_cons ?_ (all_cons ?_ (Qr jPk_st (.pointer (some ⟨gT,oT + p * 192,none⟩)) (fun ρ y W hk=>(run_idx rfl (kx_at rfl hk) (kx_at rfl hk) hpT5.out Try.underlying87 ents_size)) rfl rfl (all_nil))))))))))))))))) (fun _=>rfl) rfl ?_
        ·intro ρ y W L hw hn hLi hLd hb hd
         refine askQ jPk_st (fun _ _ h=>h) hb ?_
         have E26:=hw 26 2 rfl
         have h2:y 2 = _:=hd 2 rfl
         obtain ⟨a,c,l,m1,m2,m3⟩:=hb
         refine asked_val (.slice (some ⟨gT,oT,none⟩) S5.T.length S5.cb) (want_free rfl) (by simp [execOp,go_sem,E26,h2,m1.blk.cell,mkC,MW.lst,hab]) rfl
        ·intro ρ y W L hw hn hLi hLd hb hd
         refine askQ jPk_st (fun _ _ h=>h) hb ?_
         have E31:=hw 31 7 rfl
         have h7:y 7 = _:=hd 7 rfl
         obtain ⟨a,c,l,m1,m2,m3⟩:=hb
         have m3:=(m3 _ (List.mem_singleton.2 rfl)).1
         refine asked_val (.bool true) (want_free rfl) (by simp [execOp,go_sem,E31,h7,m3.cell]) rfl
        ·intro ρ y W L hw hn hLi hLd hb hd; have E34:=hw 34 10 rfl; have h10:y 10 = _:=hd 10 rfl
         have EC:∀ v,ρ (.const v) = v:=fun v=>hn (.const v) trivial
         have EF:∀ f,ρ (.func f) = .func (.func f) #[] #[]:=fun f=>hn (.func f) trivial
         refine asked_callQ _ _ (want_at 9 33 true true rfl rfl ((hw 33 9 rfl).trans (hd 9 rfl))) (run_call rfl (EF _) Try.func28 (by kernel_rfl) (by kernel_rfl) (by simp only [List.map_toArray,List.map_cons,List.map_nil,E34,h10,EC,EF]; rfl)) ?_
         exact jPk_pick 2 (by omega) hb fun x h1 _ _ _=>⟨x,rfl,h1⟩
        ·intro ρ y W L hw hn hLi hLd hb hd
         refine askQ jPk_st (fun _ _ h=>h) hb ?_
         have E35:=hw 35 11 rfl
         have h11:=hd 11 rfl
         obtain ⟨x,hx,_⟩:=h11
         refine asked_val _ (want_at 9 33 true true rfl rfl ((hw 33 9 rfl).trans (hd 9 rfl))) (run_bin rfl (E35.trans hx) (hn (.const _) trivial) (by simp [go_sem]; rfl)) ⟨_,rfl⟩
        ·intro ρ y W L hw hn hLi hLd hb hd
         refine askQ jPk_st (fun _ _ h=>h) hb ?_
         have E33:=hw 33 9 rfl
         have h9:y 9 = _:=hd 9 rfl
         have E36:=hw 36 12 rfl
         have h12:=hd 12 rfl
         obtain ⟨u,hu⟩:=h12
         refine asked_val (.bool u) (want_free rfl) (run_pick rfl (E33.trans h9) (by simpa using E36.trans hu)) ⟨_,fun _=>rfl,rfl⟩
        ·intro ρ y W L hw hn hLi hLd hb hd
         refine askQ jPk_st (fun _ _ h=>h) hb ?_
         have E30:=hw 30 6 rfl
         have h6:y 6 = _:=hd 6 rfl
         have E37:=hw 37 13 rfl
         have h13:=hd 13 rfl
         obtain ⟨u,hu1,hu⟩:=h13
         have EC:∀ v,ρ (.const v) = v:=fun v=>hn (.const v) trivial
         refine asked_val (.agg #[.int .i64 1,.int .i64 (f:Int),.bool u]) (want_free rfl) (by simp [execOp,go_sem,E30,h6,E37,EC,hu]) ⟨u,hu1,rfl⟩
        intro y W6 hbW6 hRW6
        have hy11:((fixR fun v => ∃ x:Int,v = .int .i64 x ∧ 0 ≤ x)).r (y 11) W6:=hRW6 11 (by decide)
        have hy12:((fixR fun v => ∃ u,v = .bool u)).r (y 12) W6:=hRW6 12 (by decide)
        have hy13:((fixR fun v => ∃ u,(u = true → true = true) ∧ v = .bool u)).r (y 13) W6:=hRW6 13 (by decide)
        have hy14:((fixR fun v => ∃ u,(u = true → true = true) ∧ v = .agg #[.int .i64 1,.int .i64 (f:Int),.bool u])).r (y 14) W6:=hRW6 14 (by decide)
        clear hRW6
        obtain ⟨a6,c6,l6,h6,s6,_⟩:=hbW6
        obtain ⟨u,hu1,hu⟩:=hy14
        rw [hu]
        clear hu
        obtain ⟨gT',oT',curT,hab',hgTB,hgT,hgTs,_,hgTw⟩:=MkO.ent (S:=S5.lst a6 c6 l6) h6 (p:=p) (n:=n) hpT5.out hn (hTn5.out _ rfl)
        have e9:(some (⟨gT',oT',none⟩:Addr)) = some ⟨gT,oT,none⟩:=hab'.symm.trans hab
        cases e9
        have hpTi:(p:Int) < (S5.T.length:Int):=by have:=hpT5.out; omega
        have hni:(n:Int) < 64:=by omega
        have hgTw':=Lib.hid hgTw
        have s6:=s5.trans s6
        clear hgTw hab' h5 s5
        go_wp2_with (refine wpList_stv rfl _ _ _ rfl gT (oT + p * 192 + n * 3) _ (enL ⟨1,f,u⟩) rfl rfl rfl _ _ hgT (by rw [enL_len]; exact hgTs) (by kernel_rfl) (one_toList (enC_one _)) ?_)
        intro w7 hb7 hg7
        have h7:=hgTw'.out w7 ⟨1,f,u⟩ hb7 hg7
        have s7:=s6.put (H':={ S5.lst a6 c6 l6 with T:=setL (S5.lst a6 c6 l6).T p n ⟨1,f,u⟩ }) hg7 (.inr (by simp only [klM,MW.lst,hab]; simp [oB]; right; right; right; right; right; right; right; right; rfl)) (fun x hx => .inl hx)
        clear hgT hb7 hg7 h6 s6
        go_wp2
        refine bodyPost_ret (v:=.tuple #[]) (by simp [results,go_sem,Try.results76]) rfl ?_
        exact ⟨_,rfl,h7,s7,⟨hK5.out.sp,hK5.out.fi,hK5.out.ct,hK5.out.dk,hK5.out.fl,hK5.out.sl⟩,hbdu.out u (fun h=>by first | exact trivial | exact ⟨rfl,rfl⟩ | exact absurd (hu1 h) (by decide) | simp),hent5.out _⟩
       | false=>
        skip
        refine wp_growPQ 16 [_,_,_,.v (.slice (some ⟨gT,oT,none⟩) S5.T.length S5.cb),_,.v (.int .i64 (n:Int)),_,_,.v (.bool false),_,_,_,_,.r 13 ((fixR fun v => ∃ u,(u = true → false = true) ∧ v = .bool u)),.r 14 ((fixR fun v => ∃ u,(u = true → false = true) ∧ v = .agg #[.int .i64 1,.int .i64 (f:Int),.bool u])),_] (jPk S5 B b w5 [(w.heap.size,#[.bool true,.bool grd,.bool false,.bool false,.int .i64 gfi,.int .i64 (I:Int)],106)]) jPk_st (fun _=>⟨S5.al,S5.cl,S5.l,h5,MS.refl _ _ _,by simpa using ⟨bx5,hn5.out⟩⟩) (Qk jPk_st rfl (Qk jPk_st rfl (Qf jPk_st b 12 rfl rfl (all_cons ?_ (Qk jPk_st rfl (Qk jPk_st rfl (Qk jPk_st rfl (Qf jPk_st w.heap.size 2 rfl rfl (all_cons ?_ (Qk jPk_st rfl (Qk jPk_st rfl (Qk jPk_st rfl (Qk jPk_st rfl (all_cons ?_ (all_cons ?_ (Qr jPk_st (.pointer (some ⟨gT,oT + p * 192,none⟩)) (fun ρ y W hk=>(run_idx rfl (kx_at rfl hk) (kx_at rfl hk) hpT5.out Try.underlying87 ents_size)) rfl rfl (all_nil))))))))))))))))) (fun _=>rfl) rfl ?_
        ·intro ρ y W L hw hn hLi hLd hb hd
         refine askQ jPk_st (fun _ _ h=>h) hb ?_
         have E26:=hw 26 2 rfl
         have h2:y 2 = _:=hd 2 rfl
         obtain ⟨a,c,l,m1,m2,m3⟩:=hb
         refine asked_val (.slice (some ⟨gT,oT,none⟩) S5.T.length S5.cb) (want_free rfl) (by simp [execOp,go_sem,E26,h2,m1.blk.cell,mkC,MW.lst,hab]) rfl
        ·intro ρ y W L hw hn hLi hLd hb hd
         refine askQ jPk_st (fun _ _ h=>h) hb ?_
         have E31:=hw 31 7 rfl
         have h7:y 7 = _:=hd 7 rfl
         obtain ⟨a,c,l,m1,m2,m3⟩:=hb
         have m3:=(m3 _ (List.mem_singleton.2 rfl)).1
         refine asked_val (.bool false) (want_free rfl) (by simp [execOp,go_sem,E31,h7,m3.cell]) rfl
        ·intro ρ y W L hw hn hLi hLd hb hd
         refine askQ jPk_st (fun _ _ h=>h) hb ?_
         have E33:=hw 33 9 rfl
         have h9:y 9 = _:=hd 9 rfl
         have E36:=hw 36 12 rfl
         have h12:y 12 = _:=hd 12 rfl
         refine asked_val (.bool false) (want_free rfl) (run_pick rfl (E33.trans h9) (by exact (hn (.const _) trivial).trans rfl)) ⟨false,fun h=>(by cases h),rfl⟩
        ·intro ρ y W L hw hn hLi hLd hb hd
         refine askQ jPk_st (fun _ _ h=>h) hb ?_
         have E30:=hw 30 6 rfl
         have h6:y 6 = _:=hd 6 rfl
         have E37:=hw 37 13 rfl
         have h13:=hd 13 rfl
         obtain ⟨u,hu1,hu⟩:=h13
         have EC:∀ v,ρ (.const v) = v:=fun v=>hn (.const v) trivial
         refine asked_val (.agg #[.int .i64 1,.int .i64 (f:Int),.bool u]) (want_free rfl) (by simp [execOp,go_sem,E30,h6,E37,EC,hu]) ⟨u,hu1,rfl⟩
        intro y W6 hbW6 hRW6
        have hy13:((fixR fun v => ∃ u,(u = true → false = true) ∧ v = .bool u)).r (y 13) W6:=hRW6 13 (by decide)
        have hy14:((fixR fun v => ∃ u,(u = true → false = true) ∧ v = .agg #[.int .i64 1,.int .i64 (f:Int),.bool u])).r (y 14) W6:=hRW6 14 (by decide)
        clear hRW6
        obtain ⟨a6,c6,l6,h6,s6,_⟩:=hbW6
        obtain ⟨u,hu1,hu⟩:=hy14
        rw [hu]
        clear hu
        obtain ⟨gT',oT',curT,hab',hgTB,hgT,hgTs,_,hgTw⟩:=MkO.ent (S:=S5.lst a6 c6 l6) h6 (p:=p) (n:=n) hpT5.out hn (hTn5.out _ rfl)
        have e9:(some (⟨gT',oT',none⟩:Addr)) = some ⟨gT,oT,none⟩:=hab'.symm.trans hab
        cases e9
        have hpTi:(p:Int) < (S5.T.length:Int):=by have:=hpT5.out; omega
        have hni:(n:Int) < 64:=by omega
        have hgTw':=Lib.hid hgTw
        have s6:=s5.trans s6
        clear hgTw hab' h5 s5
        go_wp2_with (refine wpList_stv rfl _ _ _ rfl gT (oT + p * 192 + n * 3) _ (enL ⟨1,f,u⟩) rfl rfl rfl _ _ hgT (by rw [enL_len]; exact hgTs) (by kernel_rfl) (one_toList (enC_one _)) ?_)
        intro w7 hb7 hg7
        have h7:=hgTw'.out w7 ⟨1,f,u⟩ hb7 hg7
        have s7:=s6.put (H':={ S5.lst a6 c6 l6 with T:=setL (S5.lst a6 c6 l6).T p n ⟨1,f,u⟩ }) hg7 (.inr (by simp only [klM,MW.lst,hab]; simp [oB]; right; right; right; right; right; right; right; right; rfl)) (fun x hx => .inl hx)
        clear hgT hb7 hg7 h6 s6
        go_wp2
        refine bodyPost_ret (v:=.tuple #[]) (by simp [results,go_sem,Try.results76]) rfl ?_
        exact ⟨_,rfl,h7,s7,⟨hK5.out.sp,hK5.out.fi,hK5.out.ct,hK5.out.dk,hK5.out.fl,hK5.out.sl⟩,hbdu.out u (fun h=>by first | exact trivial | exact ⟨rfl,rfl⟩ | exact absurd (hu1 h) (by decide) | simp),hent5.out _⟩
end Go.Proofs.Ytkjobhcnlppcnaa