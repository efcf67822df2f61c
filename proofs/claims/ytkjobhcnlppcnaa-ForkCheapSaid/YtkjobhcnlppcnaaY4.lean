import Derived.Test.YtkjobhcnlppcnaaY3
import Derived.BigQuiet
import Derived.Deep.OwnRows
import Derived.Deep.DeepCutAuto
import Derived.BigRegion
import Derived.ArgAppend
set_option linter.unusedSimpArgs false
set_option linter.unusedVariables false
set_option maxHeartbeats 4000000
set_option maxRecDepth 100000
namespace Go.Proofs.Ytkjobhcnlppcnaa
open Go.RowKit Go.Maps Pw
theorem entryE_no {m:Ma} {s:Sp} {n:Int} (h:findA s.ar n < 0):entryE m s n = 5:=by unfold entryE; exact if_pos h
theorem mentry_any (H:MH) (P:PS) (n:Int) (b bs os:Nat) (w:World) (hbk:Blk w b (mhC H) 40) (h:MaR w H) (hrd:RdV w (some ⟨bs,os,none⟩) (psL P)) (hg:P.good w) (har:(wrongA P.ar).1 = 0) (htb:wrongT P.tb = 0) (hn:0 ≤ n ∧ n < 64) :
  Calls Try.prog 38 #[.pointer (some ⟨b,0,none⟩),.pointer (some ⟨bs,os,none⟩),.int .i64 n] w fun r w'=>r = .returned (.int .i64 (entryE H.ma P.sp n)) ∧ Below w.heap.size w w':=by
 have hs1:∀ W,Below w.heap.size w W → W.cell? ⟨bs,os + 1,none⟩ = some (.slice P.aa P.ar.length P.ac):=fun W hb=>by
  obtain ⟨b',o',e,hc⟩:=(hrd.below hb) 1 _ rfl
  cases e
  exact hc
 go_enter Try.func38,Try.ntmps38
 have hc1:=hs1 w (Below.refl _ _)
 have hA:=hg.ars
 go_wp2_with fail
 refine (afind_any P.ar n P.aa P.ac _ hA.rd (by have:=hA.le; have:=hA.mx; unfold maxLen at this; omega)).mono ?_
 rintro r w1 ⟨rfl,hb1⟩
 have hbk1:=hbk.ext hb1
 have h1:=h.below hb1
 have hg1:=hg.below hb1
 have hrd1:=hrd.below hb1
 clear hc1 hA
 by_cases hf:findA P.ar n < 0
 ·have hq:Hid (entryE H.ma P.sp n = 5):=Lib.hid (entryE_no hf)
  clear hbk1
  go_wp2
  go_ret
  rw [hq.out]
  exact ⟨rfl,hb1⟩
 have hE:Hid (entryE H.ma P.sp n = (let a:=P.ar.getD (findA P.ar n).toNat zAr
  let e:=getT P.tb n
  if e.k = 2 then (if (H.sl.length:Int) ≤ e.n ∨ a.sh = true then 7 else 0)
  else if (H.m.fs.length:Int) ≤ e.n then 3 else
  let f:=frAt H.ma e.n
  let of:=decide (0 ≤ a.fi) && decide (f.f = a.fi) && decide (f.i = a.ba + n - a.fr)
  if 0 ≤ f.f ∧ of = false ∨ a.sh = true ∧ of = false ∨ a.sh = false ∧ of = true ∧ e.w = true ∨ e.w = true ∧ a.wr = false then 7
  else if f.f < 0 ∧ e.w = true ∧ 1 < f.r then 7 else 0)):=Lib.hid (by unfold entryE; exact if_neg hf)
 obtain ⟨k,hk,hkl,_⟩:=idx_nat (q:=inA n) (l:=P.ar) (by show 0 ≤ findA P.ar n; omega)
 have hk' : findA P.ar n = k:=hk
 rw [hk',Int.toNat_natCast,List.getD_eq_getElem?_getD,List.getElem?_eq_getElem hkl] at hE
 simp only [Option.getD_some] at hE
 have hkn:¬ (k:Int) < 0:=by omega
 rw [hk']
 obtain ⟨ba,oa,haa,hard⟩:=elemR arL_len (by decide) hg1.ars.rd k hkl
 have haE:=(wrong_all har).2 _ (List.getElem_mem hkl)
 have hafew:=(areaE_few haE).1
 have hent:=(entE_iff _).1 (getT_ent htb n)
 generalize P.ar[k] = a at *
 generalize hge:getT P.tb n = e at *
 have hge':=Lib.hid hge
 clear hk hk' hf haE hge
 go_upto_region 4 with (fail)
 refine wp_growY 15 [ofR 0 (isV (.pointer (some ⟨bs,os,none⟩))),ofR 1 (isV (.pointer (some ⟨bs,os,none⟩))),ofR 2 (isV (.pointer (some ⟨bs,os + 1,none⟩))),ofR 3 (isV (.slice (some ⟨ba,oa,none⟩) P.ar.length P.ac)),ofR 4 (isV (.int .i64 (k:Int))),ofR 5 (isV (.pointer (some ⟨ba,oa + k * 7,none⟩))),ofR 6 (isV (.pointer (some ⟨bs,os,none⟩))),ofR 7 (isV (.pointer (some ⟨bs,os,none⟩))),ofR 8 (isV (.pointer (some ⟨bs,os + 2,none⟩))),ofR 9 (isV (.agg (tsC P.ts))),ofR 10 (isV (.int .i64 n)),ofR 11 (isV (.agg (enC e))),ofR 12 ((allocR w1.heap.size 67 3)),ofR 13 (isV (.pointer (some ⟨ba,oa + k * 7,none⟩))),(boxY 12 w1.heap.size 67 (isV (.agg (enC e))))] (fun W=>Below w1.heap.size w1 W) (fun _ _ h h2=>below_next h2 h) (Below.refl _ _) (by kernel_rfl) _ rfl (by kernel_rfl) (by kernel_rfl) (by decide) (by kernel_rfl) _ rfl (by kernel_rfl) (all_cons ?_ (all_cons ?_ (all_cons ?_ (all_cons ?_ (all_cons ?_ (all_cons ?_ (all_cons ?_ (all_cons ?_ (all_cons ?_ (all_cons ?_ (all_cons ?_ (all_cons ?_ (all_cons ?_ (all_cons ?_ (all_cons ?_ (all_nil)))))))))))))))) ?_
 ·intro ρ y W hw hn hb hd
  refine askY (fun _ _ h h2=>below_next h2 h) hb (isV (.pointer (some ⟨bs,os,none⟩))) (fun _ _ h=>h) ?_
  have E1:ρ (.tmp 1) = .pointer (some ⟨bs,os,none⟩):=(hn (.tmp 1) rfl).trans rfl
  refine asked_val (.pointer (some ⟨bs,os,none⟩)) (want_free rfl) (run_move (.inl rfl) E1) rfl
 ·intro ρ y W hw hn hb hd
  refine askY (fun _ _ h h2=>below_next h2 h) hb (isV (.pointer (some ⟨bs,os,none⟩))) (fun _ _ h=>h) ?_
  have E21:=hw 21 0 rfl
  have h0:y 0 = .pointer (some ⟨bs,os,none⟩):=hd 0 rfl
  refine asked_val (.pointer (some ⟨bs,os,none⟩)) (want_free rfl) (by simp [execOp,go_sem,stripO,E21,h0]) rfl
 ·intro ρ y W hw hn hb hd
  refine askY (fun _ _ h h2=>below_next h2 h) hb (isV (.pointer (some ⟨bs,os + 1,none⟩))) (fun _ _ h=>h) ?_
  have E22:=hw 22 1 rfl
  have h1:y 1 = .pointer (some ⟨bs,os,none⟩):=hd 1 rfl
  refine asked_val (.pointer (some ⟨bs,os + 1,none⟩)) (want_free rfl) (by simp [execOp,go_sem,stripO,E22,h1]) rfl
 ·intro ρ y W hw hn hb hd
  refine askY (fun _ _ h h2=>below_next h2 h) hb (isV (.slice (some ⟨ba,oa,none⟩) P.ar.length P.ac)) (fun _ _ h=>h) ?_
  have E23:=hw 23 2 rfl
  have h2:y 2 = .pointer (some ⟨bs,os + 1,none⟩):=hd 2 rfl
  refine asked_val (.slice (some ⟨ba,oa,none⟩) P.ar.length P.ac) (want_free rfl) (by simp [execOp,go_sem,stripO,E23,h2,hs1 _ (below_next hb1 hb),haa]) rfl
 ·intro ρ y W hw hn hb hd
  refine askY (fun _ _ h h2=>below_next h2 h) hb (isV (.int .i64 (k:Int))) (fun _ _ h=>h) ?_
  have E7:ρ (.tmp 7) = .int .i64 (k:Int):=(hn (.tmp 7) rfl).trans rfl
  refine asked_val (.int .i64 (k:Int)) (want_free rfl) (run_move (.inl rfl) E7) rfl
 ·intro ρ y W hw hn hb hd
  refine askY (fun _ _ h h2=>below_next h2 h) hb (isV (.pointer (some ⟨ba,oa + k * 7,none⟩))) (fun _ _ h=>h) ?_
  have E24:=hw 24 3 rfl
  have h3:y 3 = .slice (some ⟨ba,oa,none⟩) P.ar.length P.ac:=hd 3 rfl
  have E25:=hw 25 4 rfl
  have h4:y 4 = .int .i64 (k:Int):=hd 4 rfl
  refine asked_val (.pointer (some ⟨ba,oa + k * 7,none⟩)) (want_free rfl) (run_idx rfl (E24.trans h3) (E25.trans h4) hkl Try.underlying60 area_size) rfl
 ·intro ρ y W hw hn hb hd
  refine askY (fun _ _ h h2=>below_next h2 h) hb (isV (.pointer (some ⟨bs,os,none⟩))) (fun _ _ h=>h) ?_
  have E1:ρ (.tmp 1) = .pointer (some ⟨bs,os,none⟩):=(hn (.tmp 1) rfl).trans rfl
  refine asked_val (.pointer (some ⟨bs,os,none⟩)) (want_free rfl) (run_move (.inl rfl) E1) rfl
 ·intro ρ y W hw hn hb hd
  refine askY (fun _ _ h h2=>below_next h2 h) hb (isV (.pointer (some ⟨bs,os,none⟩))) (fun _ _ h=>h) ?_
  have E27:=hw 27 6 rfl
  have h6:y 6 = .pointer (some ⟨bs,os,none⟩):=hd 6 rfl
  refine asked_val (.pointer (some ⟨bs,os,none⟩)) (want_free rfl) (by simp [execOp,go_sem,stripO,E27,h6]) rfl
 ·intro ρ y W hw hn hb hd
  refine askY (fun _ _ h h2=>below_next h2 h) hb (isV (.pointer (some ⟨bs,os + 2,none⟩))) (fun _ _ h=>h) ?_
  have E28:=hw 28 7 rfl
  have h7:y 7 = .pointer (some ⟨bs,os,none⟩):=hd 7 rfl
  refine asked_val (.pointer (some ⟨bs,os + 2,none⟩)) (want_free rfl) (by simp [execOp,go_sem,stripO,E28,h7]) rfl
 ·intro ρ y W hw hn hb hd
  refine askY (fun _ _ h h2=>below_next h2 h) hb (isV (.agg (tsC P.ts))) (fun _ _ h=>h) ?_
  have E29:=hw 29 8 rfl
  have h8:y 8 = .pointer (some ⟨bs,os + 2,none⟩):=hd 8 rfl
  refine asked_val (.agg (tsC P.ts)) (want_free rfl) (run_load_rd rfl (E29.trans h8) (rdv_part (hrd1.below hb) 2 8) Try.underlying63 tab_agg tab_size) rfl
 ·intro ρ y W hw hn hb hd
  refine askY (fun _ _ h h2=>below_next h2 h) hb (isV (.int .i64 n)) (fun _ _ h=>h) ?_
  have E2:ρ (.tmp 2) = .int .i64 n:=(hn (.tmp 2) rfl).trans rfl
  refine asked_val (.int .i64 n) (want_free rfl) (run_move (.inl rfl) E2) rfl
 ·intro ρ y W hw hn hb hd
  refine askY (fun _ _ h h2=>below_next h2 h) hb (isV (.agg (enC e))) (fun _ _ h=>h) ?_
  have E30:=hw 30 9 rfl
  have h9:y 9 = .agg (tsC P.ts):=hd 9 rfl
  have E31:=hw 31 10 rfl
  have h10:y 10 = .int .i64 n:=hd 10 rfl
  have EF:∀ f,ρ (.func f) = .func (.func f) #[] #[]:=fun f=>hn (.func f) trivial
  refine asked_call _ _ (want_free rfl) (run_call rfl (EF _) Try.func39 (by kernel_rfl) (by kernel_rfl) (by simp only [List.map_toArray,List.map_cons,List.map_nil,E30,h9,E31,h10,EF]; rfl)) ?_
  refine (tget_any P.tb (tsC P.ts) n W (hg1.below hb).tb).mono ?_
  rintro r w2 ⟨rfl,hb2⟩
  rw [hge'.out]
  exact ⟨_,rfl,hb2,rfl⟩
 ·intro ρ y W hw hn hb hd
  refine askY (fun _ _ h h2=>below_next h2 h) hb ((allocR w1.heap.size 67 3)) (fun _ _ h=>h) ?_
  refine asked_new (.pointer (some ⟨W.heap.size,0,none⟩)) (want_free rfl) (by simp [execOp,go_sem,stripO]) ((Below.refl _ _).alloc (Nat.le_refl _) (.cells #[.int .i64 0,.int .i64 0,.bool false] 67)) ?_
  exact ⟨_,_,rfl,hb.size,Blk.new _ _ _,rfl⟩
 ·intro ρ y W hw hn hb hd
  refine askY (fun _ _ h h2=>below_next h2 h) hb (isV (.pointer (some ⟨ba,oa + k * 7,none⟩))) (fun _ _ h=>h) ?_
  have E26:=hw 26 5 rfl
  have h5:y 5 = .pointer (some ⟨ba,oa + k * 7,none⟩):=hd 5 rfl
  refine asked_val (.pointer (some ⟨ba,oa + k * 7,none⟩)) (want_free rfl) (run_move (.inr rfl) (E26.trans h5)) rfl
 ·intro ρ y W hw hn hb hd
  have E9:=hw 9 12 rfl
  have h12:=hd 12 rfl
  have E32:=hw 32 11 rfl
  have h11:y 11 = .agg (enC e):=hd 11 rfl
  obtain ⟨g3,cur3,e9,hg9,hb9,hs9⟩:=h12
  refine askY_store (want_free rfl) _ _ _ rfl g3 0 (.agg (enC e)) (enC e).toList (E9.trans e9) (E32.trans h11) rfl cur3 _ hb9 (by rw [hs9]; exact Nat.le_refl _) entry_size (one_toList (by simp [enC,Value.oneCell'])) ?_
  intro w1 hw1 hgr
  rw [putAt_whole cur3 _ (by rw [hs9]; rfl)] at hw1
  refine ⟨hb.grown hgr hb.size (fun k hk=>by cases hk; exact hg9),⟨g3,_,e9,hg9,hw1,rfl⟩,?_⟩
  intro k hk hne
  match k,hk,hne with
  | 0,_,_=>exact fun h=>h
  | 1,_,_=>exact fun h=>h
  | 2,_,_=>exact fun h=>h
  | 3,_,_=>exact fun h=>h
  | 4,_,_=>exact fun h=>h
  | 5,_,_=>exact fun h=>h
  | 6,_,_=>exact fun h=>h
  | 7,_,_=>exact fun h=>h
  | 8,_,_=>exact fun h=>h
  | 9,_,_=>exact fun h=>h
  | 10,_,_=>exact fun h=>h
  | 11,_,_=>exact fun h=>h
  | 12,_,_=>exact fun q=>allocR_keep q hw1 (fun _=>rfl) ⟨_,hb9⟩ hgr
  | 13,_,_=>exact fun h=>h
  | 14,_,h=>exact absurd rfl h
  | n + 15,h,_=>exact absurd h (by omega)
 intro y w4 hbw4 hRw4
 replace hbw4:Below w1.heap.size w1 w4:=hbw4
 have hy0:y 0 = .pointer (some ⟨bs,os,none⟩):=hRw4 0 (by decide)
 have hy1:y 1 = .pointer (some ⟨bs,os,none⟩):=hRw4 1 (by decide)
 have hy2:y 2 = .pointer (some ⟨bs,os + 1,none⟩):=hRw4 2 (by decide)
 have hy3:y 3 = .slice (some ⟨ba,oa,none⟩) P.ar.length P.ac:=hRw4 3 (by decide)
 have hy4:y 4 = .int .i64 (k:Int):=hRw4 4 (by decide)
 have hy5:y 5 = .pointer (some ⟨ba,oa + k * 7,none⟩):=hRw4 5 (by decide)
 have hy6:y 6 = .pointer (some ⟨bs,os,none⟩):=hRw4 6 (by decide)
 have hy7:y 7 = .pointer (some ⟨bs,os,none⟩):=hRw4 7 (by decide)
 have hy8:y 8 = .pointer (some ⟨bs,os + 2,none⟩):=hRw4 8 (by decide)
 have hy9:y 9 = .agg (tsC P.ts):=hRw4 9 (by decide)
 have hy10:y 10 = .int .i64 n:=hRw4 10 (by decide)
 have hy11:y 11 = .agg (enC e):=hRw4 11 (by decide)
 have hy13:y 13 = .pointer (some ⟨ba,oa + k * 7,none⟩):=hRw4 13 (by decide)
 have hy12:((allocR w1.heap.size 67 3)).r (y 12) w4:=hRw4 12 (by decide)
 have hy14:=hRw4 14 (by decide)
 clear hRw4
 simp only [lay,strip,stripO,List.map_cons,List.map_nil,Nat.reduceAdd,Nat.reduceLT,decide_true,decide_false,if_true,Bool.false_eq_true,if_false,List.setIfInBounds_toArray,List.set_cons_zero,List.set_cons_succ,List.drop_succ_cons,List.drop_zero,List.drop_nil,hy0,hy1,hy2,hy3,hy4,hy5,hy6,hy7,hy8,hy9,hy10,hy11,hy13]
 clear hy0 hy1 hy2 hy3 hy4 hy5 hy6 hy7 hy8 hy9 hy10 hy11 hy13
 obtain ⟨ge,cce,hgee,hges,hb4,hcce⟩:=hy14
 have hcce' : cce = enC e:=by simpa [isV] using hcce
 subst hcce'
 rw [hgee]
 have hbel4:=hbw4
 have hbr4:=below_next hb1 hbel4
 have ex:=hb4
 have hbk4:=hbk.ext hbr4
 have h4:=h.below hbr4
 have hard4:=hard.below hbel4
 clear hbw4 hbel4 hgee hb4 hard hrd1 hbk1 h1 hb1 hs1 hg1 hy12
 have hAc:∀ j u,(arL a)[j]? = some u → ∀ W,Below w4.heap.size w4 W → W.cell? ⟨ba,oa + k * 7 + j,none⟩ = some u:=fun j u hj W hb=>by
  obtain ⟨b',o',e',hc⟩:=(hard4.below hb) j u hj
  cases e'
  exact hc
 have hA3:=hAc 3 _ rfl
 have hA4:=hAc 4 _ rfl
 have hA5:=hAc 5 _ rfl
 have hA6:=hAc 6 _ rfl
 have hA0:∀ W,Below w4.heap.size w4 W → W.cell? ⟨ba,oa + k * 7,none⟩ = some (.int .i64 a.fr):=hAc 0 _ rfl
 have hce:=ex.cell
 unfold enC at hce
 clear hAc hard4
 by_cases hk2:e.k = 2
 ·rw [if_pos hk2] at hE
  rw [hk2] at hce
  go_upto_region 6 with (fail)
  clear hce hk2
  by_cases c1:(H.sl.length:Int) ≤ e.n
  ·have hq:Hid (entryE H.ma P.sp n = 7):=Lib.hid (by rw [hE.out,if_pos (.inl c1)])
   refine wp_growP 14 [_,_,_,_,_,_,_,_,_,_,_,_,_,.v (.bool true)] (Gf ge 1 rfl rfl (Gl ex rfl rfl rfl rfl rfl (Gk rfl (Gk rfl (Gf b 2 rfl rfl (Gl hbk4 rfl rfl rfl rfl rfl (Gn rfl rfl rfl rfl (Gb (.bool true) (by simp [go_sem,c1]) rfl rfl rfl rfl rfl (Gk rfl (Gk rfl (Gk rfl (Gk rfl (Gk rfl (Gk rfl (all_nil))))))))))))))) (fun _=>rfl) rfl ?_
   intro y W5 hbW5 _
   have hbr5:=below_next hbr4 hbW5
   clear hbW5
   go_wp2
   go_ret
   rw [hq.out]
   exact ⟨rfl,hbr5⟩
  ·cases c2:a.sh with
   | true=>
    have hq:Hid (entryE H.ma P.sp n = 7):=Lib.hid (by rw [hE.out,if_pos (.inr c2)])
    refine wp_growP 14 [_,_,_,_,_,_,_,_,_,_,_,_,_,.v (.bool true)] (Gf ge 1 rfl rfl (Gl ex rfl rfl rfl rfl rfl (Gk rfl (Gk rfl (Gf b 2 rfl rfl (Gl hbk4 rfl rfl rfl rfl rfl (Gn rfl rfl rfl rfl (Gb (.bool false) (by simp [go_sem,c1]) rfl rfl rfl rfl rfl (Gk rfl (Gk rfl (Gk rfl (Gf ba (oa + k * 7 + 4) rfl rfl (Gc (.bool true) (fun W hb=>by simp [hA4 _ hb,c2]) rfl rfl rfl rfl (Gk rfl (all_nil))))))))))))))) (fun _=>rfl) rfl ?_
    intro y W5 hbW5 _
    have hbr5:=below_next hbr4 hbW5
    clear hbW5
    go_wp2
    go_ret
    rw [hq.out]
    exact ⟨rfl,hbr5⟩
   | false=>
    have hq:Hid (entryE H.ma P.sp n = 0):=Lib.hid (by rw [hE.out,if_neg (by rw [c2]; simp; omega)])
    refine wp_growP 14 [_,_,_,_,_,_,_,_,_,_,_,_,_,.v (.bool false)] (Gf ge 1 rfl rfl (Gl ex rfl rfl rfl rfl rfl (Gk rfl (Gk rfl (Gf b 2 rfl rfl (Gl hbk4 rfl rfl rfl rfl rfl (Gn rfl rfl rfl rfl (Gb (.bool false) (by simp [go_sem,c1]) rfl rfl rfl rfl rfl (Gk rfl (Gk rfl (Gk rfl (Gf ba (oa + k * 7 + 4) rfl rfl (Gc (.bool false) (fun W hb=>by simp [hA4 _ hb,c2]) rfl rfl rfl rfl (Gk rfl (all_nil))))))))))))))) (fun _=>rfl) rfl ?_
    intro y W5 hbW5 _
    have hbr5:=below_next hbr4 hbW5
    clear hbW5
    go_wp2
    go_ret
    rw [hq.out]
    exact ⟨rfl,hbr5⟩
 rw [if_neg hk2] at hE
 obtain ⟨K,hK⟩:∃ K:Nat,e.n = K:=⟨e.n.toNat,by omega⟩
 rw [hK] at hE
 go_upto_region 9 with (fail)
 clear hce
 by_cases c3:(H.m.fs.length:Int) ≤ (K:Int)
 ·have hq:Hid (entryE H.ma P.sp n = 3):=Lib.hid (by rw [hE.out,if_pos c3])
  have c3e:(H.m.fs.length:Int) ≤ e.n:=by omega
  refine wp_growP 9 [_,_,_,_,_,_,_,_,_] (Gf ge 1 rfl rfl (Gl ex rfl rfl rfl rfl rfl (Gk rfl (Gk rfl (Gf b 0 rfl rfl (Gf b 0 rfl rfl (Gl hbk4 rfl rfl rfl rfl rfl (Gn rfl rfl rfl rfl (Gb (.bool true) (by simp [go_sem,c3e]) rfl rfl rfl rfl rfl (all_nil)))))))))) (fun _=>rfl) rfl ?_
  intro y W5 hbW5 _
  have hbr5:=below_next hbr4 hbW5
  clear hbW5 hA0 hA3 hA4 hA5 hA6 c3 c3e
  go_wp2
  go_ret
  rw [hq.out]
  exact ⟨rfl,hbr5⟩
 rw [if_neg c3] at hE
 have c3e:¬ (H.m.fs.length:Int) ≤ e.n:=by omega
 refine wp_growP 9 [_,_,_,_,_,_,_,_,_] (Gf ge 1 rfl rfl (Gl ex rfl rfl rfl rfl rfl (Gk rfl (Gk rfl (Gf b 0 rfl rfl (Gf b 0 rfl rfl (Gl hbk4 rfl rfl rfl rfl rfl (Gn rfl rfl rfl rfl (Gb (.bool false) (by simp [go_sem,c3e]) rfl rfl rfl rfl rfl (all_nil)))))))))) (fun _=>rfl) rfl ?_
 intro y W5 hbW5 _
 have hbr5:=below_next hbr4 hbW5
 have hKl:K < H.m.fs.length:=by omega
 replace ex:=ex.ext hbW5
 have hbk5:=hbk.ext hbr5
 have h5:=h.below hbr5
 have sh:∀ {u:Value} {z:Addr},(∀ W,Below w4.heap.size w4 W → W.cell? z = some u) → ∀ W,Below W5.heap.size W5 W → W.cell? z = some u:=fun hh W hb=>hh W (below_next hbW5 hb)
 replace hA0:=sh hA0
 replace hA3:=sh hA3
 replace hA4:=sh hA4
 replace hA5:=sh hA5
 replace hA6:=sh hA6
 obtain ⟨bg,og,haf,hfrd⟩:=elemR frL_len (by decide) h5.fr.rd K hKl
 have hxf:H.m.fs[K] = frN H.ma K:=by
  have:=frN_at (m:=H.ma) (f:=K) hKl
  have h2:H.m.fs[K]? = some (frN H.ma K):=this
  rw [List.getElem?_eq_getElem hKl] at h2
  exact Option.some.inj h2
 rw [hxf] at hfrd
 have hE2:Hid (entryE H.ma P.sp n = (let of:=decide (0 ≤ a.fi) && decide ((frN H.ma K).f = a.fi) && decide ((frN H.ma K).i = a.ba + n - a.fr)
  if 0 ≤ (frN H.ma K).f ∧ of = false ∨ a.sh = true ∧ of = false ∨ a.sh = false ∧ of = true ∧ e.w = true ∨ e.w = true ∧ a.wr = false then 7
  else if (frN H.ma K).f < 0 ∧ e.w = true ∧ 1 < (frN H.ma K).r then 7 else 0)):=Lib.hid (by rw [hE.out]; rfl)
 generalize frN H.ma K = x at *
 clear hE hxf hbW5 hbk4 h4 hbr4 c3 sh
 go_upto_region 11 with (fail)
 refine wp_growP 9 [_,_,_,_,_,_,_,_,.v (.pointer (some ⟨bg,og + K * 13,none⟩))] (Gk rfl (Gk rfl (Gf b 0 rfl rfl (Gf b 0 rfl rfl (Gl hbk5 (V:=.slice (some ⟨bg,og,none⟩) H.m.fs.length H.cf) (by simp [mhC,haf]) rfl rfl rfl rfl (Gf ge 1 rfl rfl (Gl ex (V:=.int .i64 (K:Int)) (by simp [enC,hK]) rfl rfl rfl rfl (Gr (.pointer (some ⟨bg,og + K * 13,none⟩)) (fun ρ y W hb hk=>(run_idx rfl (kx_at rfl hk) (kx_at rfl hk) hKl Try.underlying25 frame_size)) rfl rfl (Gk rfl (all_nil)))))))))) (fun _=>rfl) rfl ?_
 intro y W7 hbW7 _
 have hbr7:=below_next hbr5 hbW7
 have ex7:=ex.ext hbW7
 have hbk7:=hbk.ext hbr7
 have sh:∀ {u:Value} {z:Addr},(∀ W,Below W5.heap.size W5 W → W.cell? z = some u) → ∀ W,Below W7.heap.size W7 W → W.cell? z = some u:=fun hh W hb=>hh W (below_next hbW7 hb)
 replace hA0:=sh hA0
 replace hA3:=sh hA3
 replace hA4:=sh hA4
 replace hA5:=sh hA5
 replace hA6:=sh hA6
 have hfrd7:=hfrd.below hbW7
 clear ex hbk5 hbW7 sh hfrd hbr5 h5
 have hw1:IntKind.i64.wrap (a.ba + n) = a.ba + n:=IntWalk.i64_in _ (by obtain ⟨⟨z1,z2⟩,⟨z3,z4⟩,z5,z6⟩:=hafew; omega)
 have hw2:IntKind.i64.wrap (a.ba + n - a.fr) = a.ba + n - a.fr:=IntWalk.i64_in _ (by obtain ⟨⟨z1,z2⟩,⟨z3,z4⟩,z5,z6⟩:=hafew; omega)
 go_upto_region 12 with (fail)
 refine wp_growP 12 [_,_,_,_,_,_,_,_,_,_,_,.v (.int .i64 (a.ba + n - a.fr))] (Gk rfl (Gk rfl (Gf ba (oa + k * 7 + 6) rfl rfl (Gc (.int .i64 a.ba) (fun W hb=>by simp [hA6 _ hb]) rfl rfl rfl rfl (Gk rfl (Gb (.int .i64 (a.ba + n)) (by simp [go_sem,hw1]) rfl rfl rfl rfl rfl (Gk rfl (Gk rfl (Gf ba (oa + k * 7) rfl rfl (Gc (.int .i64 a.fr) (fun W hb=>by simp [hA0 _ hb]) rfl rfl rfl rfl (Gb (.int .i64 (a.ba + n - a.fr)) (by simp [go_sem,hw2]) rfl rfl rfl rfl rfl (Gk rfl (all_nil))))))))))))) (fun _=>rfl) rfl ?_
 intro y W5 hbW5 _
 have hbr5:=below_next hbr7 hbW5
 have ex:=ex7.ext hbW5
 have hbk5:=hbk.ext hbr5
 have sh:∀ {u:Value} {z:Addr},(∀ W,Below W7.heap.size W7 W → W.cell? z = some u) → ∀ W,Below W5.heap.size W5 W → W.cell? z = some u:=fun hh W hb=>hh W (below_next hbW5 hb)
 replace hA3:=sh hA3
 replace hA4:=sh hA4
 replace hA5:=sh hA5
 have hfrd:=hfrd7.below hbW5
 clear ex7 hbk7 hbW5 sh hfrd7 hbr7 hw1 hw2 hA0 hA6
 have hXc:∀ j u,(frL x)[j]? = some u → ∀ W,Below W5.heap.size W5 W → W.cell? ⟨bg,og + K * 13 + j,none⟩ = some u:=fun j u hj W hb=>by
  obtain ⟨b',o',e',hc⟩:=(hfrd.below hb) j u hj
  cases e'
  exact hc
 have hX8:=hXc 8 _ rfl
 have hX11:=hXc 11 _ rfl
 have hX12:=hXc 12 _ rfl
 clear hXc hfrd
 go_upto_region 13 with (fail)
 by_cases g1:0 ≤ a.fi
 ·by_cases g2:x.f = a.fi
  ·by_cases g3:x.i = a.ba + n - a.fr
   ·skip
    refine wp_growP 25 [_,_,_,_,_,_,_,_,_,_,_,_,_,_,_,_,_,_,_,_,_,_,_,_,.v (.bool true)] (Gk rfl (Gk rfl (Gf ba (oa + k * 7 + 5) rfl rfl (Gc (.int .i64 a.fi) (fun W hb=>by simp [hA5 _ hb]) rfl rfl rfl rfl (Gb (.bool true) (by simp [go_sem,g1]) rfl rfl rfl rfl rfl (Gk rfl (Gk rfl (Gk rfl (Gf bg (og + K * 13 + 11) rfl rfl (Gc (.int .i64 x.f) (fun W hb=>by simp [hX11 _ hb]) rfl rfl rfl rfl (Gk rfl (Gk rfl (Gf ba (oa + k * 7 + 5) rfl rfl (Gc (.int .i64 a.fi) (fun W hb=>by simp [hA5 _ hb]) rfl rfl rfl rfl (Gb (.bool true) (by simp [go_sem,g2]) rfl rfl rfl rfl rfl (Gk rfl (Gk rfl (Gk rfl (Gk rfl (Gf bg (og + K * 13 + 12) rfl rfl (Gc (.int .i64 x.i) (fun W hb=>by simp [hX12 _ hb]) rfl rfl rfl rfl (Gk rfl (Gb (.bool true) (by simp [go_sem,g3]) rfl rfl rfl rfl rfl (Gk rfl (Gk rfl (all_nil)))))))))))))))))))))))))) (fun _=>rfl) rfl ?_
    intro y W6 hbW6 _
    have hbr6:=below_next hbr5 hbW6
    have x8:=hX8 _ hbW6
    have x11:=hX11 _ hbW6
    have a3:=hA3 _ hbW6
    have a4:=hA4 _ hbW6
    have hce:=(ex.ext hbW6).cell
    unfold enC at hce
    clear hbW6 hA3 hA4 hA5 hX8 hX11 hX12 ex hbk5
    have f1:0 ≤ x.f:=by omega
    have f1n:¬ x.f < 0:=by omega
    replace hE2:Hid (entryE H.ma P.sp n = if a.sh = false ∧ e.w = true ∨ e.w = true ∧ a.wr = false then 7 else 0):=Lib.hid (by
     rw [hE2.out,decide_eq_true g1,decide_eq_true g2,decide_eq_true g3]
     simp [f1n])
    clear g2 g3
    cases f2:a.sh with
    | true=>
     rw [f2] at a4
     cases f3:e.w with
     | false=>
      rw [f3] at hce
      have hq:Hid (entryE H.ma P.sp n = 0):=Lib.hid (by rw [hE2.out]; simp [*]; try omega)
      clear hE2
      go_wp2
      go_ret
      rw [hq.out]
      exact ⟨rfl,hbr6⟩
     | true=>
      rw [f3] at hce
      cases f4:a.wr with
      | false=>
       rw [f4] at a3
       have hq:Hid (entryE H.ma P.sp n = 7):=Lib.hid (by rw [hE2.out]; simp [*]; try omega)
       clear hE2
       go_wp2
       go_ret
       rw [hq.out]
       exact ⟨rfl,hbr6⟩
      | true=>
       rw [f4] at a3
       have hq:Hid (entryE H.ma P.sp n = 0):=Lib.hid (by rw [hE2.out]; simp [*]; try omega)
       clear hE2
       go_wp2
       go_ret
       rw [hq.out]
       exact ⟨rfl,hbr6⟩
    | false=>
     rw [f2] at a4
     cases f3:e.w with
     | true=>
      rw [f3] at hce
      have hq:Hid (entryE H.ma P.sp n = 7):=Lib.hid (by rw [hE2.out]; simp [*]; try omega)
      clear hE2
      go_wp2
      go_ret
      rw [hq.out]
      exact ⟨rfl,hbr6⟩
     | false=>
      rw [f3] at hce
      have hq:Hid (entryE H.ma P.sp n = 0):=Lib.hid (by rw [hE2.out]; simp [*]; try omega)
      clear hE2
      go_wp2
      go_ret
      rw [hq.out]
      exact ⟨rfl,hbr6⟩
   ·skip
    refine wp_growP 25 [_,_,_,_,_,_,_,_,_,_,_,_,_,_,_,_,_,_,_,_,_,_,_,_,.v (.bool false)] (Gk rfl (Gk rfl (Gf ba (oa + k * 7 + 5) rfl rfl (Gc (.int .i64 a.fi) (fun W hb=>by simp [hA5 _ hb]) rfl rfl rfl rfl (Gb (.bool true) (by simp [go_sem,g1]) rfl rfl rfl rfl rfl (Gk rfl (Gk rfl (Gk rfl (Gf bg (og + K * 13 + 11) rfl rfl (Gc (.int .i64 x.f) (fun W hb=>by simp [hX11 _ hb]) rfl rfl rfl rfl (Gk rfl (Gk rfl (Gf ba (oa + k * 7 + 5) rfl rfl (Gc (.int .i64 a.fi) (fun W hb=>by simp [hA5 _ hb]) rfl rfl rfl rfl (Gb (.bool true) (by simp [go_sem,g2]) rfl rfl rfl rfl rfl (Gk rfl (Gk rfl (Gk rfl (Gk rfl (Gf bg (og + K * 13 + 12) rfl rfl (Gc (.int .i64 x.i) (fun W hb=>by simp [hX12 _ hb]) rfl rfl rfl rfl (Gk rfl (Gb (.bool false) (by simp [go_sem,g3]) rfl rfl rfl rfl rfl (Gk rfl (Gk rfl (all_nil)))))))))))))))))))))))))) (fun _=>rfl) rfl ?_
    intro y W6 hbW6 _
    have hbr6:=below_next hbr5 hbW6
    have x8:=hX8 _ hbW6
    have x11:=hX11 _ hbW6
    have a3:=hA3 _ hbW6
    have a4:=hA4 _ hbW6
    have hce:=(ex.ext hbW6).cell
    unfold enC at hce
    clear hbW6 hA3 hA4 hA5 hX8 hX11 hX12 ex hbk5
    have hof:(decide (0 ≤ a.fi) && decide (x.f = a.fi) && decide (x.i = a.ba + n - a.fr)) = false:=by simp [*]
    replace hE2:Hid (entryE H.ma P.sp n = if 0 ≤ x.f ∨ a.sh = true ∨ e.w = true ∧ a.wr = false then 7 else if x.f < 0 ∧ e.w = true ∧ 1 < x.r then 7 else 0):=Lib.hid (by
     rw [hE2.out,hof]
     simp)
    clear hof g2 g3
    by_cases f1:0 ≤ x.f
    ·skip
     have hq:Hid (entryE H.ma P.sp n = 7):=Lib.hid (by rw [hE2.out]; simp [*]; try omega)
     clear hE2
     go_wp2
     go_ret
     rw [hq.out]
     exact ⟨rfl,hbr6⟩
    have f1n:x.f < 0:=by omega
    cases f2:a.sh with
    | true=>
     rw [f2] at a4
     have hq:Hid (entryE H.ma P.sp n = 7):=Lib.hid (by rw [hE2.out]; simp [*]; try omega)
     clear hE2
     go_wp2
     go_ret
     rw [hq.out]
     exact ⟨rfl,hbr6⟩
    | false=>
     rw [f2] at a4
     cases f3:e.w with
     | false=>
      rw [f3] at hce
      have hq:Hid (entryE H.ma P.sp n = 0):=Lib.hid (by rw [hE2.out]; simp [*]; try omega)
      clear hE2
      go_wp2
      go_ret
      rw [hq.out]
      exact ⟨rfl,hbr6⟩
     | true=>
      rw [f3] at hce
      cases f4:a.wr with
      | false=>
       rw [f4] at a3
       have hq:Hid (entryE H.ma P.sp n = 7):=Lib.hid (by rw [hE2.out]; simp [*]; try omega)
       clear hE2
       go_wp2
       go_ret
       rw [hq.out]
       exact ⟨rfl,hbr6⟩
      | true=>
       rw [f4] at a3
       by_cases f5:1 < x.r
       ·skip
        have hq:Hid (entryE H.ma P.sp n = 7):=Lib.hid (by rw [hE2.out]; simp [*]; try omega)
        clear hE2
        go_wp2
        go_ret
        rw [hq.out]
        exact ⟨rfl,hbr6⟩
       ·skip
        have hq:Hid (entryE H.ma P.sp n = 0):=Lib.hid (by rw [hE2.out]; simp [*]; try omega)
        clear hE2
        go_wp2
        go_ret
        rw [hq.out]
        exact ⟨rfl,hbr6⟩
  ·skip
   refine wp_growP 25 [_,_,_,_,_,_,_,_,_,_,_,_,_,_,_,_,_,_,_,_,_,_,_,_,.v (.bool false)] (Gk rfl (Gk rfl (Gf ba (oa + k * 7 + 5) rfl rfl (Gc (.int .i64 a.fi) (fun W hb=>by simp [hA5 _ hb]) rfl rfl rfl rfl (Gb (.bool true) (by simp [go_sem,g1]) rfl rfl rfl rfl rfl (Gk rfl (Gk rfl (Gk rfl (Gf bg (og + K * 13 + 11) rfl rfl (Gc (.int .i64 x.f) (fun W hb=>by simp [hX11 _ hb]) rfl rfl rfl rfl (Gk rfl (Gk rfl (Gf ba (oa + k * 7 + 5) rfl rfl (Gc (.int .i64 a.fi) (fun W hb=>by simp [hA5 _ hb]) rfl rfl rfl rfl (Gb (.bool false) (by simp [go_sem,g2]) rfl rfl rfl rfl rfl (Gk rfl (Gk rfl (Gk rfl (Gk rfl (Gk rfl (Gk rfl (Gk rfl (Gk rfl (Gk rfl (Gk rfl (all_nil)))))))))))))))))))))))))) (fun _=>rfl) rfl ?_
   intro y W6 hbW6 _
   have hbr6:=below_next hbr5 hbW6
   have x8:=hX8 _ hbW6
   have x11:=hX11 _ hbW6
   have a3:=hA3 _ hbW6
   have a4:=hA4 _ hbW6
   have hce:=(ex.ext hbW6).cell
   unfold enC at hce
   clear hbW6 hA3 hA4 hA5 hX8 hX11 hX12 ex hbk5
   have hof:(decide (0 ≤ a.fi) && decide (x.f = a.fi) && decide (x.i = a.ba + n - a.fr)) = false:=by simp [*]
   replace hE2:Hid (entryE H.ma P.sp n = if 0 ≤ x.f ∨ a.sh = true ∨ e.w = true ∧ a.wr = false then 7 else if x.f < 0 ∧ e.w = true ∧ 1 < x.r then 7 else 0):=Lib.hid (by
    rw [hE2.out,hof]
    simp)
   clear hof g2
   by_cases f1:0 ≤ x.f
   ·skip
    have hq:Hid (entryE H.ma P.sp n = 7):=Lib.hid (by rw [hE2.out]; simp [*]; try omega)
    clear hE2
    go_wp2
    go_ret
    rw [hq.out]
    exact ⟨rfl,hbr6⟩
   have f1n:x.f < 0:=by omega
   cases f2:a.sh with
   | true=>
    rw [f2] at a4
    have hq:Hid (entryE H.ma P.sp n = 7):=Lib.hid (by rw [hE2.out]; simp [*]; try omega)
    clear hE2
    go_wp2
    go_ret
    rw [hq.out]
    exact ⟨rfl,hbr6⟩
   | false=>
    rw [f2] at a4
    cases f3:e.w with
    | false=>
     rw [f3] at hce
     have hq:Hid (entryE H.ma P.sp n = 0):=Lib.hid (by rw [hE2.out]; simp [*]; try omega)
     clear hE2
     go_wp2
     go_ret
     rw [hq.out]
     exact ⟨rfl,hbr6⟩
    | true=>
     rw [f3] at hce
     cases f4:a.wr with
     | false=>
      rw [f4] at a3
      have hq:Hid (entryE H.ma P.sp n = 7):=Lib.hid (by rw [hE2.out]; simp [*]; try omega)
      clear hE2
      go_wp2
      go_ret
      rw [hq.out]
      exact ⟨rfl,hbr6⟩
     | true=>
      rw [f4] at a3
      by_cases f5:1 < x.r
      ·skip
       have hq:Hid (entryE H.ma P.sp n = 7):=Lib.hid (by rw [hE2.out]; simp [*]; try omega)
       clear hE2
       go_wp2
       go_ret
       rw [hq.out]
       exact ⟨rfl,hbr6⟩
      ·skip
       have hq:Hid (entryE H.ma P.sp n = 0):=Lib.hid (by rw [hE2.out]; simp [*]; try omega)
       clear hE2
       go_wp2
       go_ret
       rw [hq.out]
       exact ⟨rfl,hbr6⟩
 ·skip
  refine wp_growP 25 [_,_,_,_,_,_,_,_,_,_,_,_,_,_,_,_,_,_,_,_,_,_,_,_,.v (.bool false)] (Gk rfl (Gk rfl (Gf ba (oa + k * 7 + 5) rfl rfl (Gc (.int .i64 a.fi) (fun W hb=>by simp [hA5 _ hb]) rfl rfl rfl rfl (Gb (.bool false) (by simp [go_sem,g1]) rfl rfl rfl rfl rfl (Gk rfl (Gk rfl (Gk rfl (Gk rfl (Gk rfl (Gk rfl (Gk rfl (Gk rfl (Gk rfl (Gk rfl (Gk rfl (Gk rfl (Gk rfl (Gk rfl (Gk rfl (Gk rfl (Gk rfl (Gk rfl (Gk rfl (Gk rfl (all_nil)))))))))))))))))))))))))) (fun _=>rfl) rfl ?_
  intro y W6 hbW6 _
  have hbr6:=below_next hbr5 hbW6
  have x8:=hX8 _ hbW6
  have x11:=hX11 _ hbW6
  have a3:=hA3 _ hbW6
  have a4:=hA4 _ hbW6
  have hce:=(ex.ext hbW6).cell
  unfold enC at hce
  clear hbW6 hA3 hA4 hA5 hX8 hX11 hX12 ex hbk5
  have hof:(decide (0 ≤ a.fi) && decide (x.f = a.fi) && decide (x.i = a.ba + n - a.fr)) = false:=by simp [*]
  replace hE2:Hid (entryE H.ma P.sp n = if 0 ≤ x.f ∨ a.sh = true ∨ e.w = true ∧ a.wr = false then 7 else if x.f < 0 ∧ e.w = true ∧ 1 < x.r then 7 else 0):=Lib.hid (by
   rw [hE2.out,hof]
   simp)
  clear hof g1
  by_cases f1:0 ≤ x.f
  ·skip
   have hq:Hid (entryE H.ma P.sp n = 7):=Lib.hid (by rw [hE2.out]; simp [*]; try omega)
   clear hE2
   go_wp2
   go_ret
   rw [hq.out]
   exact ⟨rfl,hbr6⟩
  have f1n:x.f < 0:=by omega
  cases f2:a.sh with
  | true=>
   rw [f2] at a4
   have hq:Hid (entryE H.ma P.sp n = 7):=Lib.hid (by rw [hE2.out]; simp [*]; try omega)
   clear hE2
   go_wp2
   go_ret
   rw [hq.out]
   exact ⟨rfl,hbr6⟩
  | false=>
   rw [f2] at a4
   cases f3:e.w with
   | false=>
    rw [f3] at hce
    have hq:Hid (entryE H.ma P.sp n = 0):=Lib.hid (by rw [hE2.out]; simp [*]; try omega)
    clear hE2
    go_wp2
    go_ret
    rw [hq.out]
    exact ⟨rfl,hbr6⟩
   | true=>
    rw [f3] at hce
    cases f4:a.wr with
    | false=>
     rw [f4] at a3
     have hq:Hid (entryE H.ma P.sp n = 7):=Lib.hid (by rw [hE2.out]; simp [*]; try omega)
     clear hE2
     go_wp2
     go_ret
     rw [hq.out]
     exact ⟨rfl,hbr6⟩
    | true=>
     rw [f4] at a3
     by_cases f5:1 < x.r
     ·skip
      have hq:Hid (entryE H.ma P.sp n = 7):=Lib.hid (by rw [hE2.out]; simp [*]; try omega)
      clear hE2
      go_wp2
      go_ret
      rw [hq.out]
      exact ⟨rfl,hbr6⟩
     ·skip
      have hq:Hid (entryE H.ma P.sp n = 0):=Lib.hid (by rw [hE2.out]; simp [*]; try omega)
      clear hE2
      go_wp2
      go_ret
      rw [hq.out]
      exact ⟨rfl,hbr6⟩
def isK (i:Int) (c:Cc):Bool:=decide (c.k = i)
theorem wrong1_any (c:Cc) (i:Int) (g:Nat) (w:World) (hg:Blk w g #[.int .i64 i] 3) :
  Calls Try.prog 41 #[.agg (ccC c),.pointer (some ⟨g,0,none⟩)] w fun r w'=>r = .returned (.bool (isK i c)) ∧ Below w.heap.size w w':=by
 go_enter Try.func41,Try.ntmps41
 go_upto_region 1 with (fail)
 refine abs1 (fun W=>Code.wp _ _ _ _ W) fun W0 hb0 hx0 hs0 => ?_
 clear hs0
 have hgx:=(hg.ext hb0).cell 0
 have hcx:=hx0.cell
 have q2:(ccC c)[2]? = some (.int .i64 c.k):=rfl
 go_wp2
 go_ret
 exact ⟨ret_bool (by unfold isK; rfl),hb0⟩
theorem cc_elem {w:World} {a:Option Addr} {l:List Cc} (h:RdV w a (l.flatMap ccL)) (k:Nat) (hk:k < l.length):∃ b off,a = some ⟨b,off,none⟩ ∧ RdV w (some ⟨b,off + k * 3,none⟩) (ccL l[k]):=elemR ccL_len (by decide) h k hk
theorem idxk_any (l:List Cc) (a:Option Addr) (c:Nat) (w:World) (hrd:RdV w a (l.flatMap ccL)) (hl:l.length ≤ 9223372036854775807) (g:Nat) (kk:Int) (hg:Blk w g #[.int .i64 kk] 3) :
  Calls Try.prog 84 #[.slice a l.length c,.func (.func 41) #[] #[.pointer (some ⟨g,0,none⟩)]] w fun e w'=>e = .returned (.int .i64 (idx (isK kk) l)) ∧ Below w.heap.size w w':=by
 go_enter Try.func84,Try.ntmps84
 go_wp2
 go_loopw [8] (fun i wr => ∃ k:Nat,k ≤ l.length ∧ i = .int .i64 k ∧ Below w.heap.size w wr ∧ ∀ i (h:i < l.length),i < k → (isK kk) l[i] = false) (fun i _=>l.length - (intOf i).toNat)
 case atStart=>exact ⟨0,Nat.zero_le _,rfl,Below.refl _ _,fun i _ h=>absurd h (Nat.not_lt_zero _)⟩
 case round=>
  obtain ⟨k,hk,rfl,hbr,hp0⟩:=hrel
  have hp:=Lib.hid hp0
  clear hp0
  by_cases hlt:k < l.length
  ·obtain ⟨b,off,rfl,hel⟩:=cc_elem (hrd.below hbr) k hlt
   go_wp2_with (refine wpList_ldg _ _ rfl b (off + k * 3) rfl rfl _ hel _ Try.underlying85 rfl cached_size ?_)
   refine (wrong1_any l[k] kk g _ (hg.ext hbr)).mono ?_
   rintro e w2 ⟨rfl,hb2⟩
   have hbel2:=below_next hbr hb2
   clear hb2
   cases hpk:(isK kk) l[k]
   ·have hpk':=Lib.hid hpk
    clear hpk
    go_wp2
    go_roundw
    case rel=>exact ⟨k + 1,by omega,by go_num,hbel2,upto' hp.out hlt hpk'.out⟩
    case measure=>simp [intOf]; omega
   ·have hfin:=Lib.hid (idx_at (isK kk) l k hlt hp.out hpk)
    clear hpk
    go_wp2
    go_ret
    exact ⟨ret_int hfin.out.symm,hbel2⟩
  ·have hfin:=Lib.hid (idx_none (isK kk) l fun i h=>hp.out i h (by omega))
   go_wp2
   go_ret
   exact ⟨ret_int hfin.out.symm,hbr⟩
theorem conk_any (l:List Cc) (a:Option Addr) (c:Nat) (w:World) (hrd:RdV w a (l.flatMap ccL)) (hl:l.length ≤ 9223372036854775807) (g:Nat) (kk:Int) (hg:Blk w g #[.int .i64 kk] 3) :
  Calls Try.prog 40 #[.slice a l.length c,.func (.func 41) #[] #[.pointer (some ⟨g,0,none⟩)]] w fun e w'=>e = .returned (.bool (l.any (isK kk))) ∧ Below w.heap.size w w':=by
 go_enter Try.func40,Try.ntmps40
 go_wp2_with fail
 refine (idxk_any l a c _ hrd hl g kk hg).mono ?_
 rintro e w2 ⟨rfl,hb2⟩
 go_wp2
 go_ret
 exact ⟨ret_bool (idx_any _ _),hb2⟩
theorem eqslots_any (l m:List Int) (a a' : Option Addr) (c c' : Nat) (w:World) (hrd:RdV w a (l.map inV)) (hrd' : RdV w a' (m.map inV)) (hl:l.length ≤ 9223372036854775807) (hl' : m.length ≤ 9223372036854775807) :
  Calls Try.prog 42 #[.slice a l.length c,.slice a' m.length c'] w fun e w'=>e = .returned (.bool (l == m)) ∧ Below w.heap.size w w':=by
 go_enter Try.func42,Try.ntmps42
 by_cases hlm:l.length = m.length
 ·have hne:((l.length:Int) != (m.length:Int)) = false:=by simp [hlm]
  go_wp2
  go_loopw [13] (fun i wr => ∃ k:Nat,k ≤ l.length ∧ i = .int .i64 k ∧ Below w.heap.size w wr ∧ ∀ i (h:i < l.length),i < k → l[i] = m[i]'(by omega)) (fun i _=>l.length - (intOf i).toNat)
  case atStart=>exact ⟨0,Nat.zero_le _,rfl,Below.refl _ _,fun i _ h=>absurd h (Nat.not_lt_zero _)⟩
  case round=>
   obtain ⟨k,hk,rfl,hbel,hp⟩:=hrel
   by_cases hlt:k < l.length
   ·obtain ⟨b,off,rfl,hc⟩:=elem_at (hrd.below hbel) k hlt
    obtain ⟨b',off',rfl,hc'⟩:=elem_at (hrd'.below hbel) k (by omega)
    have k1:(k:Int) < (m.length:Int):=by omega
    go_wp2_with fail
    go_quiet (fail)
    by_cases he:l[k] = m[k]'(by omega)
    ·have hz:(l[k] != m[k]'(by omega)) = false:=by simp [he]
     go_wp2
     go_roundw
     case rel=>exact ⟨k + 1,by omega,by go_num,below_drewN hbel _,upto hp hlt he⟩
     case measure=>simp [intOf]; omega
    ·have hz:(l[k] != m[k]'(by omega)) = true:=by simp [he]
     go_wp2
     go_ret
     exact ⟨ret_bool (samei_not k hlt (by omega) he).symm,below_drewN hbel _⟩
   ·go_wp2
    all_goals
     go_ret
     exact ⟨ret_bool (samei_end hlm fun i h=>hp i h (by omega)).symm,hbel⟩
 ·have hne:((l.length:Int) != (m.length:Int)) = true:=by simp; omega
  go_wp2
  go_ret
  refine ⟨ret_bool ?_,Below.refl _ _⟩
  symm
  rw [beq_eq_false_iff_ne]
  rintro rfl
  exact hlm rfl
theorem cntL_len (n:Nat) (l:List Int):(cntL n l).length = n:=by simp [cntL]
theorem cntL_get (n:Nat) (l:List Int) (i:Nat) (hi:i < n):(cntL n l)[i]? = some (cnt l i:Int):=by simp [cntL,hi]
theorem cnt_snoc (l:List Int) (k i:Int):cnt (l ++ [k]) i = cnt l i + (if k = i then 1 else 0):=by
 rw [cnt_app]
 congr 1
 unfold cnt
 rw [List.countP_cons,List.countP_nil]
 by_cases h:k = i
 ·simp [h]
 ·simp [h]
theorem cntL_inc (n:Nat) (l:List Int) (k:Nat) (hk:k < n):(cntL n l).set k ((cnt l k:Int) + 1) = cntL n (l ++ [(k:Int)]):=by
 apply List.ext_getElem?
 intro i
 rw [List.getElem?_set,cntL_len]
 by_cases e:k = i
 ·subst e
  rw [if_pos rfl,if_pos hk,cntL_get _ _ _ hk,cnt_snoc,if_pos rfl]
  simp
 ·rw [if_neg e]
  by_cases hi:i < n
  ·rw [cntL_get _ _ _ hi,cntL_get _ _ _ hi,cnt_snoc,if_neg (by omega)]; rfl
  ·rw [List.getElem?_eq_none (by rw [cntL_len]; omega),List.getElem?_eq_none (by rw [cntL_len]; omega)]
theorem cntL_nil (n:Nat):cntL n [] = List.replicate n 0:=by
 unfold cntL cnt
 apply List.ext_getElem?
 intro i
 rw [List.getElem?_map,List.getElem?_replicate]
 by_cases hi:i < n
 ·rw [List.getElem?_range hi,if_pos hi]; rfl
 ·rw [if_neg hi,List.getElem?_eq_none (by simp; omega)]; rfl
theorem cnt_le (l:List Int) (i:Int):cnt l i ≤ l.length:=List.countP_le_length
def IB (w:World) (g:Nat) (l:List Int):Prop:=Blk w g (l.map inV).toArray 3
theorem made_ints (n:Nat):madeCells #[.int .i64 0] n = ((List.replicate n (0:Int)).map inV).toArray:=by
 apply Array.ext
 ·simp [size_madeCells]
 ·intro i h1 h2
  simp [madeCells,inV,Nat.mod_one]
theorem IB.cell {w:World} {g:Nat} {l:List Int} (h:IB w g l) {k:Nat} {v:Int} (hv:l[k]? = some v):w.cell? ⟨g,k,none⟩ = some (.int .i64 v):=by
 have:=Blk.cell h k
 rw [this]
 simp [hv,inV]
theorem IB.set {l:List Int} {k:Nat} {v:Int} (hk:k < l.length):putAt (l.map inV).toArray k [.int .i64 v] = ((l.set k v).map inV).toArray:=by
 show ((l.map inV).toArray).setIfInBounds k (.int .i64 v) = _
 rw [List.map_set]
 simp [inV]
theorem firstE_app {l r:List Int} (h:∀ x ∈ l,x = 0):firstE (l ++ r) = firstE r:=by
 induction l with
 | nil=>rfl
 | cons a l ih=>
  have h0:=h a List.mem_cons_self
  rw [List.cons_append]
  rw [firstE,h0]
  simp only [if_true,ne_eq,not_true_eq_false,if_false]
  exact ih fun x hx=>h x (List.mem_cons_of_mem _ hx)
theorem firstE_hd {x:Int} {r:List Int} (h:x ≠ 0):firstE (x :: r) = x:=by
 rw [firstE]
 simp [h]
theorem entries_at {m:Ma} {p j:Nat} {s:Sp} {n:Int} (hs:m.sp[p]? = some s) (hn:(pagesL s.tb)[j]? = some n) (h1:∀ t ∈ m.sp.take p,∀ i ∈ pagesL t.tb,entryE m t i = 0) (h2:∀ i ∈ (pagesL s.tb).take j,entryE m s i = 0) (hne:entryE m s n ≠ 0):entriesE m = entryE m s n:=by
 unfold entriesE
 have e1:m.sp = m.sp.take p ++ s :: m.sp.drop (p + 1):=by rw [← drop_at hs,List.take_append_drop]
 have e2:pagesL s.tb = (pagesL s.tb).take j ++ n :: (pagesL s.tb).drop (j + 1):=by rw [← drop_at hn,List.take_append_drop]
 rw [e1,List.flatMap_append,firstE_app (fun x hx => ?_),List.flatMap_cons,e2,List.map_append,List.append_assoc,firstE_app (fun x hx => ?_),List.map_cons,List.cons_append,firstE_hd hne]
 ·obtain ⟨i,hi,rfl⟩:=List.mem_map.1 hx
  exact h2 i hi
 ·obtain ⟨t,ht,hx⟩:=List.mem_flatMap.1 hx
  obtain ⟨i,hi,rfl⟩:=List.mem_map.1 hx
  exact h1 t ht i hi
theorem entries_all {m:Ma} (h:∀ t ∈ m.sp,∀ i ∈ pagesL t.tb,entryE m t i = 0):entriesE m = 0:=by
 unfold entriesE
 rw [← List.append_nil (m.sp.flatMap _),firstE_app (fun x hx => ?_)]
 ·rfl
 ·obtain ⟨t,ht,hx⟩:=List.mem_flatMap.1 hx
  obtain ⟨i,hi,rfl⟩:=List.mem_map.1 hx
  exact h t ht i hi
theorem entry_lt {m:Ma} {s:Sp} {n:Int} (h:entryE m s n = 0):((getT s.tb n).k = 2 → (getT s.tb n).n < m.sl.length) ∧ ((getT s.tb n).k ≠ 2 → (getT s.tb n).n < m.m.fs.length):=by
 unfold entryE at h
 split at h
 ·cases h
 ·simp only at h
  split at h
  ·rename_i h2
   split at h
   ·cases h
   ·rename_i h3
    exact ⟨fun _=>by omega,fun h'=>absurd h2 h'⟩
  ·rename_i h2
   split at h
   ·cases h
   ·exact ⟨fun h'=>absurd h' h2,fun _=>by omega⟩
def heldT (m:Ma) (p:Nat) (l:List Int):List Int:=m.ca.map Cc.k ++ (m.sp.take p).flatMap (fun s=>presT s.tb (pagesL s.tb)) ++ l
def swapdT (m:Ma) (p:Nat) (l:List Int):List Int:=(m.sp.take p).flatMap (fun s=>swapT s.tb (pagesL s.tb)) ++ l
theorem pres_snoc (t:Tb) (l:List Int) (n:Int):presT t (l ++ [n]) = presT t l ++ (if (getT t n).k = 1 then [(getT t n).n] else []):=by
 unfold presT
 rw [List.filter_append,List.map_append]
 congr 1
 by_cases h:(getT t n).k = 1
 ·simp [h]
 ·simp [h]
theorem swap_snoc (t:Tb) (l:List Int) (n:Int):swapT t (l ++ [n]) = swapT t l ++ (if (getT t n).k = 1 then [] else [(getT t n).n]):=by
 unfold swapT
 rw [List.filter_append,List.map_append]
 congr 1
 by_cases h:(getT t n).k = 1
 ·simp [h]
 ·simp [h]
theorem heldT_next {m:Ma} {p:Nat} {s:Sp} (hs:m.sp[p]? = some s):heldT m p (presT s.tb (pagesL s.tb)) = heldT m (p + 1) []:=by
 unfold heldT
 rw [take_at hs,List.flatMap_append,List.append_nil,List.append_assoc]
 simp
theorem swapdT_next {m:Ma} {p:Nat} {s:Sp} (hs:m.sp[p]? = some s):swapdT m p (swapT s.tb (pagesL s.tb)) = swapdT m (p + 1) []:=by
 unfold swapdT
 rw [take_at hs,List.flatMap_append,List.append_nil]
 simp
theorem heldT_end (m:Ma):heldT m m.sp.length [] = heldL m:=by unfold heldT heldL; rw [List.take_length,List.append_nil]
theorem swapdT_end (m:Ma):swapdT m m.sp.length [] = swapL m:=by unfold swapdT swapL; rw [List.take_length,List.append_nil]
theorem heldT_snoc (m:Ma) (p:Nat) (l:List Int) (k:Int):heldT m p (l ++ [k]) = heldT m p l ++ [k]:=by unfold heldT; rw [List.append_assoc,List.append_assoc,List.append_assoc]
theorem swapdT_snoc (m:Ma) (p:Nat) (l:List Int) (k:Int):swapdT m p (l ++ [k]) = swapdT m p l ++ [k]:=by unfold swapdT; rw [List.append_assoc]
theorem presT_len (t:Tb) (l:List Int):(presT t l).length ≤ l.length:=by unfold presT; rw [List.length_map]; exact List.length_filter_le _ _
theorem swapT_len (t:Tb) (l:List Int):(swapT t l).length ≤ l.length:=by unfold swapT; rw [List.length_map]; exact List.length_filter_le _ _
theorem flat_len {α:Type} (g:α → List Int) (c:Nat) (h:∀ x,(g x).length ≤ c):∀ l:List α,(l.flatMap g).length ≤ c * l.length
 | []=>by simp
 | x :: l=>by
  have h1:=flat_len g c h l
  have h2:=h x
  rw [List.flatMap_cons,List.length_append,List.length_cons,Nat.mul_succ]
  omega
theorem pagesL_len (t:Tb):(pagesL t).length ≤ 64:=pagesTo_le t 64
theorem heldT_len (m:Ma) (p:Nat) (l:List Int):(heldT m p l).length ≤ m.ca.length + 64 * m.sp.length + l.length:=by
 unfold heldT
 have h1:=flat_len (fun s:Sp=>presT s.tb (pagesL s.tb)) 64 (fun s=>Nat.le_trans (presT_len _ _) (pagesL_len _)) (m.sp.take p)
 have h2:(m.sp.take p).length ≤ m.sp.length:=by rw [List.length_take]; omega
 simp only [List.length_append,List.length_map]
 omega
theorem heldT_cnt {m:Ma} (h:CaOk m) (p:Nat) (l:List Int) (K:Int):cnt (heldT m p l) K ≤ 1 + 64 * m.sp.length + l.length:=by
 unfold heldT
 rw [cnt_app,cnt_app]
 have h1:=flat_len (fun s:Sp=>presT s.tb (pagesL s.tb)) 64 (fun s=>Nat.le_trans (presT_len _ _) (pagesL_len _)) (m.sp.take p)
 have h2:(m.sp.take p).length ≤ m.sp.length:=by rw [List.length_take]; omega
 have h3:cnt (m.ca.map Cc.k) K = caN m K:=by
  unfold cnt caN
  rw [List.countP_map]; rfl
 have h4:=caN_le h K
 have h5:=cnt_le ((m.sp.take p).flatMap fun s=>presT s.tb (pagesL s.tb)) K
 have h6:=cnt_le l K
 omega
theorem swapdT_len (m:Ma) (p:Nat) (l:List Int):(swapdT m p l).length ≤ 64 * m.sp.length + l.length:=by
 unfold swapdT
 have h1:=flat_len (fun s:Sp=>swapT s.tb (pagesL s.tb)) 64 (fun s=>Nat.le_trans (swapT_len _ _) (pagesL_len _)) (m.sp.take p)
 have h2:(m.sp.take p).length ≤ m.sp.length:=by rw [List.length_take]; omega
 simp only [List.length_append]
 omega
theorem two_new (w:World) (c1 c2:Array Value) (T1 T2:TypeId):Below w.heap.size w ((w.alloc (.cells c1 T1)).alloc (.cells c2 T2)).drew ∧ Blk ((w.alloc (.cells c1 T1)).alloc (.cells c2 T2)).drew w.heap.size c1 T1 ∧ Blk ((w.alloc (.cells c1 T1)).alloc (.cells c2 T2)).drew (w.heap.size + 1) c2 T2:=by
 have e:(w.alloc (.cells c1 T1)).heap.size = w.heap.size + 1:=Array.size_push _
 have h1:Below w.heap.size w ((w.alloc (.cells c1 T1)).alloc (.cells c2 T2)):=((Below.refl _ _).alloc (Nat.le_refl _) _).alloc (by omega) _
 have h2:Blk ((w.alloc (.cells c1 T1)).alloc (.cells c2 T2)) w.heap.size c1 T1:=(Blk.new w c1 T1).ext ((Below.refl _ _).alloc (Nat.le_refl _) _)
 have h3:Blk ((w.alloc (.cells c1 T1)).alloc (.cells c2 T2)) (w.heap.size + 1) c2 T2:=by rw [← e]; exact Blk.new _ _ _
 exact ⟨⟨h1.os,h1.tape,h1.output,h1.size,h1.block⟩,h2,h3⟩
theorem int_one:(Try.prog.info? 3).map (·.size) = some 1:=by kernel_rfl
theorem int_inf:(Try.prog.info? 3).map (fun i=>(i.zero,i.size,i.bytes)) = some (some (.int .i64 0),1,8):=by kernel_rfl
theorem run_idx1 {P:Program} {ρ:Operand → Value} {o:Oper} {w:World} {t e:TypeId} {x y:Operand} {b n c i:Nat} {k:IntKind} (ho:o.op = .indexAddr t x y) (hx:ρ x = .slice (some ⟨b,0,none⟩) n c) (hy:ρ y = .int k (i:Int)) (hi:i < n)
  (hu:P.underlying t = some (.slice e)) (hs:(P.info? e).map (·.size) = some 1):(execOp ρ o).run P w = .ok (.value (.pointer (some ⟨b,i,none⟩))) w:=by
 have:=run_idx (w:=w) ho hx hy hi hu hs
 rw [this]
 simp
def cndC (m:Ma) (i:Nat):Bool:=decide ((frAt m i).r = cnt (heldL m) i) && (decide ((frAt m i).f < 0) || m.ca.any fun c=>decide (c.k = i))
theorem countB_c (m:Ma):countB m = ((List.range m.m.fs.length).all (cndC m) && decide (m.sl = cntL m.sl.length (swapL m))):=rfl
theorem count_at {m:Ma} (h:countB m = true) (k:Nat) (hk:k < m.m.fs.length):cndC m k = true:=by
 rw [countB_c,Bool.and_eq_true,List.all_eq_true] at h
 exact h.1 k (List.mem_range.2 hk)
theorem machine_wrong (H:MH) (w:World) (h:MaR w H) :
  Calls Try.prog 10 #[.agg (mhC H)] w fun r w'=>r = .returned (.int .i64 (wrongMa H.ma)) ∧ Below w.heap.size w w':=by
 have hmx:H.m.fs.length * 8 ≤ 281474976710656 ∧ H.sl.length * 8 ≤ 281474976710656 ∨ ¬ partsE H.ma = 0:=by
  by_cases e:partsE H.ma = 0
  ·have hp:=(partsE_zero.1 e).1
   have h1:=((wrongM_iff _).1 hp.fr).1
   have h2:=wrongS_len hp.sl
   have h1' : H.m.fs.length ≤ 40:=h1
   have h2' : H.sl.length ≤ 60:=h2
   exact .inl ⟨by omega,by omega⟩
  ·exact .inr e
 go_enter Try.func10,Try.ntmps10
 go_upto_region 1 with (fail)
 refine abs1 (fun W=>Code.wp _ _ _ _ W) fun w1 hb1 bx1 hs1 => ?_
 have h1:=h.below hb1
 have bx:Blk w1 w.heap.size (mhC H) 40:=bx1
 clear bx1 hs1
 go_wp2_with fail
 refine (parts_any H w.heap.size _ bx h1).mono ?_
 rintro r w2 ⟨rfl,hb2⟩
 have hbr2:=below_next hb1 hb2
 have bx2:=bx.ext hb2
 clear bx h1 hb1 hb2
 by_cases e1:partsE H.ma = 0
 rotate_left
 ·have hq:Hid (wrongMa H.ma = partsE H.ma):=Lib.hid (by unfold wrongMa; rw [if_pos e1])
  generalize partsE H.ma = E at *
  go_wp2
  go_ret
  rw [hq.out]
  exact ⟨rfl,hbr2⟩
 rw [e1]
 go_wp2_with fail
 refine (cached_any H w.heap.size _ bx2 (h.below hbr2)).mono ?_
 rintro r w3 ⟨rfl,hb3⟩
 have hbr3:=below_next hbr2 hb3
 have bx3:=bx2.ext hb3
 clear bx2 hbr2 hb3
 by_cases e2:cachedE H.ma = 0
 rotate_left
 ·have hq:Hid (wrongMa H.ma = cachedE H.ma):=Lib.hid (by unfold wrongMa; rw [if_neg (by rw [e1]; simp),if_pos e2])
  generalize cachedE H.ma = E at *
  go_wp2
  go_ret
  rw [hq.out]
  exact ⟨rfl,hbr3⟩
 rw [e2]
 have hPt:=(partsE_zero.1 e1).1
 have n1:H.m.fs.length ≤ 40:=((wrongM_iff _).1 hPt.fr).1
 have n2:H.sl.length ≤ 60:=wrongS_len hPt.sl
 have n3:H.sp.length ≤ 4:=by have:=hPt.spl; rw [spH] at this; exact this
 have hPt':=Lib.hid hPt
 have hcaL:=Lib.hid (cachedE_zero.1 e2)
 have hwr:Hid (wrongMa H.ma = if entriesE H.ma ≠ 0 then entriesE H.ma else if countB H.ma = true then 0 else 7):=Lib.hid (by unfold wrongMa; rw [if_neg (by rw [e1]; simp),if_neg (by rw [e2]; simp)])
 clear e1 e2 hPt hmx
 go_upto_region 7 with (fail)
 have hcb:=bx3.cell
 unfold mhC at hcb
 have hcb2:=fun ob=>(bx3.ext ((Below.refl _ _).alloc (Nat.le_refl _) ob)).cell
 unfold mhC at hcb2
 have hmk1:=run_make_row' (P:=Try.prog) 28 3 (.int .i64 0) 8 Try.underlying28 int_inf rfl .i64 .i64 H.m.fs.length (by omega) (by omega)
 have hmk2:=run_make_row' (P:=Try.prog) 28 3 (.int .i64 0) 8 Try.underlying28 int_inf rfl .i64 .i64 H.sl.length (by omega) (by omega)
 go_cut [5,6] (fun s5 s6 wx => ∃ gh gs,s5 = .slice (some ⟨gh,0,none⟩) H.m.fs.length H.m.fs.length ∧ s6 = .slice (some ⟨gs,0,none⟩) H.sl.length H.sl.length ∧ gh ≠ gs ∧ w3.heap.size ≤ gh ∧ w3.heap.size ≤ gs ∧ Below w3.heap.size w3 wx ∧ Blk wx gh (madeCells #[.int .i64 0] H.m.fs.length) 3 ∧ Blk wx gs (madeCells #[.int .i64 0] H.sl.length) 3)
 case first=>
  go_region
  all_goals (go_wp2_with fail; go_meet)
  ·obtain ⟨z1,z2,z3⟩:=two_new w3 (madeCells #[.int .i64 0] H.m.fs.length) (madeCells #[.int .i64 0] H.sl.length) 3 3
   exact ⟨_,_,rfl,rfl,by omega,by omega,by omega,z1,z2,z3⟩
  ·obtain ⟨z1,z2,z3⟩:=two_new w3 (madeCells #[.int .i64 0] H.sl.length) (madeCells #[.int .i64 0] H.m.fs.length) 3 3
   exact ⟨_,_,rfl,rfl,by omega,by omega,by omega,z1,z3,z2⟩
 case rest=>
  obtain ⟨gh,gs,rfl,rfl,hne,hgh,hgs,hb4,hIh,hIs⟩:=hcut
  have hbr4:=below_next hbr3 hb4
  have bx4:=bx3.ext hb4
  have hwh:w.heap.size ≤ gh:=Nat.le_trans hbr3.size hgh
  have hws:w.heap.size ≤ gs:=Nat.le_trans hbr3.size hgs
  have hbh:w.heap.size ≠ gh:=by have:=bx3.lt; omega
  have hbs:w.heap.size ≠ gs:=by have:=bx3.lt; omega
  have hIh4:IB wc gh (cntL H.m.fs.length ((H.ca.take 0).map Cc.k)):=by
   rw [List.take_zero,List.map_nil,cntL_nil]; unfold IB; rw [← made_ints]; exact hIh
  have hIs4:IB wc gs (cntL H.sl.length []):=by
   rw [cntL_nil]; unfold IB; rw [← made_ints]; exact hIs
  clear hcb hcb2 hmk1 hmk2 hIh hIs hb4 bx3 hbr3 hgh hgs
  have hcb:=bx4.cell
  unfold mhC at hcb
  go_upto_region 9 with (fail)
  clear hcb
  have hcl:=h.ca.le
  have hcm:=h.ca.mx
  unfold maxLen at hcm
  go_loopw [37] (fun i wr => ∃ (k:Nat),k ≤ H.ca.length ∧ i = .int .i64 k ∧ Below w.heap.size w wr ∧ Blk wr w.heap.size (mhC H) 40 ∧ IB wr gh (cntL H.m.fs.length ((H.ca.take k).map Cc.k)) ∧ IB wr gs (cntL H.sl.length [])) (fun i _=>H.ca.length - (intOf i).toNat)
  case atStart=>exact ⟨0,Nat.zero_le _,rfl,hbr4,bx4,hIh4,hIs4⟩
  case round=>
   clear hbr4 bx4 hIh4 hIs4
   obtain ⟨k,hk,rfl,hbr,bx,hIh,hIs⟩:=hrel
   by_cases hkl:k < H.ca.length
   ·obtain ⟨bc,oc,hac,hrd⟩:=elemR ccL_len (by decide) (h.below hbr).ca.rd k hkl
    have hki:(k:Int) < (H.ca.length:Int):=by omega
    have hclt:0 ≤ H.ca[k].k ∧ H.ca[k].k < H.m.fs.length:=hcaL.out.lt _ (List.getElem_mem hkl)
    have htk:Hid ((H.ca.take (k + 1)).map Cc.k = (H.ca.take k).map Cc.k ++ [H.ca[k].k]):=Lib.hid (by rw [take_at (List.getElem?_eq_getElem hkl),List.map_append]; rfl)
    have hll:((H.ca.take k).map Cc.k).length ≤ k:=by rw [List.length_map,List.length_take]; omega
    generalize H.ca[k] = c at *
    obtain ⟨K,hcK⟩:∃ K:Nat,c.k = K:=⟨c.k.toNat,by omega⟩
    have hKl:K < H.m.fs.length:=by omega
    rw [hcK] at htk
    rw [hac]
    generalize (H.ca.take k).map Cc.k = L at *
    go_wp2_with (first | (refine wpList_ldg _ _ rfl bc (oc + k * 3) rfl rfl _ hrd _ Try.underlying85 rfl cached_size ?_) | (refine wpList_stn rfl _ _ _ rfl (ccC c) rfl rfl rfl cached_size (ccC_one c) ?_))
    intro w5 hb5 cx
    have hbr5:=below_next hbr hb5
    have bx5:=bx.ext hb5
    have hIh5:IB w5 gh (cntL H.m.fs.length L):=hIh.ext hb5
    have hIs5:IB w5 gs (cntL H.sl.length []):=hIs.ext hb5
    clear hbr bx hIh hIs hrd hb5
    have hcc:=cx.cell
    unfold ccC at hcc
    rw [hcK] at hcc
    have hce:=hIh5.cell (cntL_get H.m.fs.length L K hKl)
    have hcl2:=cnt_le L K
    have hw1:IntKind.i64.wrap ((cnt L K:Int) + 1) = (cnt L K:Int) + 1:=IntWalk.i64_in _ (by omega)
    have hKi:(K:Int) < (H.m.fs.length:Int):=by omega
    go_wp2_with (refine wpList_stv rfl _ _ _ rfl gh K _ [.int .i64 ((cnt L K:Int) + 1)] rfl rfl rfl _ _ hIh5 (by simp [cntL_len]; omega) int_one (fun u hu=>by cases List.mem_singleton.1 hu; rfl) ?_)
    intro w6 hb6 hg6
    rw [IB.set (by rw [cntL_len]; exact hKl),cntL_inc _ _ _ hKl,← htk.out] at hb6
    have hbr6:=hbr5.grown hg6 hbr5.size (fun k hk=>by cases hk; exact hwh)
    have bx6:=bx5.grown hg6 (fun e=>hbh (Option.some.inj e).symm)
    have hIs6:IB w6 gs (cntL H.sl.length []):=Blk.grown hIs5 hg6 (fun e=>hne (Option.some.inj e))
    clear hbr5 bx5 hIs5 hIh5 hcc hce cx hg6 hw1
    go_wp2
    go_roundw
    case rel=>exact ⟨k + 1,by omega,by go_num,hbr6,bx6,hb6,hIs6⟩
    case measure=>simp [intOf]; omega
   ·have hki:¬ (k:Int) < (H.ca.length:Int):=by omega
    rw [List.take_of_length_le (by omega)] at hIh
    have hIh0:IB wr gh (cntL H.m.fs.length (heldT H.ma 0 [])):=by
     have e:heldT H.ma 0 [] = H.ca.map Cc.k:=by
      show H.ca.map Cc.k ++ [] ++ [] = _
      rw [List.append_nil,List.append_nil]
     rw [e]; exact hIh
    have hIs0:IB wr gs (cntL H.sl.length (swapdT H.ma 0 [])):=hIs
    clear hIh hIs
    have hcb:=bx.cell
    unfold mhC at hcb
    go_upto_region 14 with (fail)
    clear hcb
    go_loopw [52] (fun i wr => ∃ (p:Nat),p ≤ H.sp.length ∧ i = .int .i64 p ∧ Below w.heap.size w wr ∧ Blk wr w.heap.size (mhC H) 40 ∧ IB wr gh (cntL H.m.fs.length (heldT H.ma p [])) ∧ IB wr gs (cntL H.sl.length (swapdT H.ma p [])) ∧ Hid (∀ t ∈ H.ma.sp.take p,∀ i ∈ pagesL t.tb,entryE H.ma t i = 0)) (fun i _=>H.sp.length - (intOf i).toNat)
    case atStart=>exact ⟨0,Nat.zero_le _,rfl,hbr,bx,hIh0,hIs0,Lib.hid fun t ht=>by simp at ht⟩
    case round=>
     clear hbr bx hIh0 hIs0
     obtain ⟨p,hp,rfl,hbr,bx,hIh,hIs,hz⟩:=hrel
     by_cases hpl:p < H.sp.length
     ·obtain ⟨bs,os,P,hap,hP,hrd⟩:=ps_at (h.below hbr).sp.rd p hpl
      have hgood:=ps_good (h.below hbr) hP
      have hpi:(p:Int) < (H.sp.length:Int):=by omega
      have hsP:H.ma.sp[p]? = some P.sp:=by show (H.sp.map PS.sp)[p]? = _; rw [List.getElem?_map,hP]; rfl
      have harE:(wrongA P.ar).1 = 0:=hPt'.out.ar P.sp (List.mem_of_getElem? hsP)
      have htbE:wrongT P.tb = 0:=hPt'.out.tb P.sp (List.mem_of_getElem? hsP)
      have hsP':=Lib.hid hsP
      have hPq:=Lib.hid hP
      have hcb:=bx.cell
      unfold mhC at hcb
      rw [hap] at hcb
      clear hsP hP
      go_wp2_with (refine wpList_ldg _ _ rfl bs (os + p * 10 + 2) rfl rfl _ (rdv_part hrd 2 8) _ Try.underlying63 tab_agg tab_size ?_)
      refine (tpages_any P.tb (tsC P.ts) _ hgood.tb).mono ?_
      rintro r w5 ⟨v5,rfl,ho5,hb5⟩
      obtain ⟨a5,c5,rfl,hle5,hmx5,_,hr5⟩:=ho5.rd
      have hlt5:gh < wr.heap.size ∧ gs < wr.heap.size:=⟨Blk.lt hIh,Blk.lt hIs⟩
      have hbr5:=below_next hbr hb5
      have bx5:=bx.ext hb5
      have hIh5:IB w5 gh (cntL H.m.fs.length (heldT H.ma p (presT P.tb ((pagesL P.tb).take 0)))):=hIh.ext hb5
      have hIs5:IB w5 gs (cntL H.sl.length (swapdT H.ma p (swapT P.tb ((pagesL P.tb).take 0)))):=hIs.ext hb5
      have hrd5:=hrd.below hb5
      have hg5:=hgood.below hb5
      have hwrs:=Lib.hid hlt5
      clear hcb hbr bx hIh hIs hrd hgood hb5 hr5
      have hpin:=Lib.hid (pages_in P.tb)
      have hpl64:=pagesL_len P.tb
      go_upto_region 18 with (fail)
      go_loopw [65] (fun i wr' => ∃ (j:Nat),j ≤ (pagesL P.tb).length ∧ i = .int .i64 j ∧ Below w.heap.size w wr' ∧ Blk wr' w.heap.size (mhC H) 40 ∧ IB wr' gh (cntL H.m.fs.length (heldT H.ma p (presT P.tb ((pagesL P.tb).take j)))) ∧ IB wr' gs (cntL H.sl.length (swapdT H.ma p (swapT P.tb ((pagesL P.tb).take j)))) ∧ Own wr' wr.heap.size 3 1 (.slice a5 (pagesL P.tb).length c5) (pagesL P.tb).length ((pagesL P.tb).map inV) ∧ RdV wr' (some ⟨bs,os + p * 10,none⟩) (psL P) ∧ P.good wr' ∧ Hid (∀ i ∈ (pagesL P.tb).take j,entryE H.ma P.sp i = 0)) (fun i _=>(pagesL P.tb).length - (intOf i).toNat)
      case atStart=>exact ⟨0,Nat.zero_le _,rfl,hbr5,bx5,hIh5,hIs5,ho5,hrd5,hg5,Lib.hid fun i hi=>by simp at hi⟩
      case round=>
       clear hbr5 bx5 hIh5 hIs5 ho5 hrd5 hg5
       obtain ⟨j,hj,rfl,hbr,bx,hIh,hIs,ho,hrd,hgood,hz2⟩:=hrel
       obtain ⟨hgl,hsl⟩:=hwrs.out
       by_cases hjl:j < (pagesL P.tb).length
       ·have hji:(j:Int) < ((pagesL P.tb).length:Int):=by omega
        obtain ⟨_,_,e9,_,_,_,hrL⟩:=ho.rd
        cases e9
        have hnj:(pagesL P.tb)[j]? = some (pagesL P.tb)[j]:=List.getElem?_eq_getElem hjl
        have hnb:=hpin.out _ (List.getElem_mem hjl)
        have hnk:(getT P.tb (pagesL P.tb)[j]).k ≠ 0:=(mem_pages.1 (List.getElem_mem hjl)).2
        obtain ⟨bp,op,hpa,hcn⟩:=elem_at hrL j hjl
        generalize hN:(pagesL P.tb)[j] = n at *
        have htk:Hid ((pagesL P.tb).take (j + 1) = (pagesL P.tb).take j ++ [n]):=Lib.hid (take_at hnj)
        have hnj':=Lib.hid hnj
        have hpaQ:=Lib.hid hpa
        have hent:=(entE_iff _).1 (getT_ent htbE n)
        rw [hpa]
        clear hnj hN hrL
        go_wp2_with fail
        refine (mentry_any H P n w.heap.size bs (os + p * 10) _ bx (h.below hbr) hrd hgood harE htbE hnb).mono ?_
        rintro r w6 ⟨rfl,hb6⟩
        have hbr6:=below_next hbr hb6
        have bx6:=bx.ext hb6
        have hIh6:=Blk.ext hIh hb6
        have hIs6:=Blk.ext hIs hb6
        have ho6:=ho.below hb6
        have hrd6:=hrd.below hb6
        have hg6:=hgood.below hb6
        clear hbr bx hIh hIs ho hrd hgood hb6 hcn
        by_cases hE:entryE H.ma P.sp n = 0
        rotate_left
        ·have hq:Hid (wrongMa H.ma = entryE H.ma P.sp n):=Lib.hid (by
          have:=entries_at hsP'.out hnj'.out hz.out hz2.out hE
          rw [hwr.out,this,if_pos hE])
         generalize entryE H.ma P.sp n = E at *
         go_wp2
         go_ret
         rw [hq.out]
         exact ⟨rfl,hbr6⟩
        have hlt:=entry_lt hE
        have hz3:Hid (∀ i ∈ (pagesL P.tb).take (j + 1),entryE H.ma P.sp i = 0):=Lib.hid fun i hi=>by
         rw [htk.out] at hi
         rcases List.mem_append.1 hi with hi | hi
         ·exact hz2.out i hi
         ·rw [List.mem_singleton.1 hi]; exact hE
        rw [hE]
        clear hz2 hE
        go_wp2_with (refine wpList_ldg _ _ rfl bs (os + p * 10 + 2) rfl rfl _ (rdv_part hrd6 2 8) _ Try.underlying63 tab_agg tab_size ?_)
        refine (tget_any P.tb (tsC P.ts) n _ hg6.tb).mono ?_
        rintro r w7 ⟨rfl,hb7⟩
        have hlt2:((getT P.tb n).k = 2 → (getT P.tb n).n < H.sl.length) ∧ ((getT P.tb n).k ≠ 2 → (getT P.tb n).n < H.m.fs.length):=hlt
        have hpS:presT P.tb ((pagesL P.tb).take (j + 1)) = presT P.tb ((pagesL P.tb).take j) ++ (if (getT P.tb n).k = 1 then [(getT P.tb n).n] else []):=by rw [htk.out,pres_snoc]
        have hsS:swapT P.tb ((pagesL P.tb).take (j + 1)) = swapT P.tb ((pagesL P.tb).take j) ++ (if (getT P.tb n).k = 1 then [] else [(getT P.tb n).n]):=by rw [htk.out,swap_snoc]
        have hl1:=heldT_len H.ma p (presT P.tb ((pagesL P.tb).take j))
        have hl1b:=presT_len P.tb ((pagesL P.tb).take j)
        have hl2:=swapdT_len H.ma p (swapT P.tb ((pagesL P.tb).take j))
        have hl2b:=swapT_len P.tb ((pagesL P.tb).take j)
        have hl3:((pagesL P.tb).take j).length ≤ 64:=by rw [List.length_take]; omega
        have hl4:H.ma.ca.length = H.ca.length:=rfl
        have hl5:H.ma.sp.length = H.sp.length:=spH H
        generalize getT P.tb n = e at *
        generalize presT P.tb ((pagesL P.tb).take j) = L1 at *
        generalize swapT P.tb ((pagesL P.tb).take j) = L2 at *
        have hpS':=Lib.hid hpS
        have hsS':=Lib.hid hsS
        clear hlt hpS hsS
        have hbr7:=below_next hbr6 hb7
        have bx7:=bx6.ext hb7
        have hIh7:=Blk.ext hIh6 hb7
        have hIs7:=Blk.ext hIs6 hb7
        have ho7:=ho6.below hb7
        have hrd7:=hrd6.below hb7
        have hg7:=hg6.below hb7
        clear hbr6 bx6 hIh6 hIs6 ho6 hrd6 hg6 hb7
        go_wp2_with (refine wpList_stn rfl _ _ _ rfl (enC e) rfl rfl rfl entry_size (by simp [enC,Value.oneCell']) ?_)
        intro w8 hb8 ex
        have hbr8:=below_next hbr7 hb8
        have bx8:=bx7.ext hb8
        have hIh8:IB w8 gh _:=Blk.ext hIh7 hb8
        have hIs8:IB w8 gs _:=Blk.ext hIs7 hb8
        have ho8:=ho7.below hb8
        have hrd8:=hrd7.below hb8
        have hg8:=hg7.below hb8
        clear hbr7 bx7 hIh7 hIs7 ho7 hrd7 hg7 hb8
        have hce:=ex.cell
        unfold enC at hce
        by_cases hk1:e.k = 1
        ·obtain ⟨K,hK⟩:∃ K:Nat,e.n = K:=⟨e.n.toNat,by omega⟩
         have hKl:K < H.m.fs.length:=by have:=hlt2.2 (by omega); omega
         have hpS2:=hpS'.out
         have hsS2:=hsS'.out
         rw [if_pos hk1,hK] at hpS2
         rw [if_pos hk1,List.append_nil] at hsS2
         rw [hk1,hK] at hce
         have hcx:=hIh8.cell (cntL_get H.m.fs.length (heldT H.ma p L1) K hKl)
         have hcl2:=heldT_cnt hcaL.out p L1 K
         have hw1:IntKind.i64.wrap ((cnt (heldT H.ma p L1) K:Int) + 1) = (cnt (heldT H.ma p L1) K:Int) + 1:=IntWalk.i64_in _ (by omega)
         have hKi:(K:Int) < (H.m.fs.length:Int):=by omega
         have hpS3:=Lib.hid hpS2
         have hsS3:=Lib.hid hsS2
         clear hpS2 hsS2 hlt2 hk1 hnk hent hK
         go_wp2_with (refine wpList_stv rfl _ _ _ rfl gh K _ [.int .i64 ((cnt (heldT H.ma p L1) K:Int) + 1)] rfl rfl rfl _ _ hIh8 (by simp [cntL_len]; omega) int_one (fun u hu=>by cases List.mem_singleton.1 hu; rfl) ?_)
         intro w9 hb9 hg9
         rw [IB.set (by rw [cntL_len]; exact hKl),cntL_inc _ _ _ hKl,← heldT_snoc,← hpS3.out] at hb9
         rw [← hsS3.out] at hIs8
         have hbr9:=hbr8.grown hg9 hbr8.size (fun k hk=>by cases hk; exact hwh)
         have bx9:=bx8.grown hg9 (fun e=>hbh (Option.some.inj e).symm)
         have hIs9:IB w9 gs _:=Blk.grown hIs8 hg9 (fun e=>hne (Option.some.inj e))
         have hr9:MaR w9 H:=h.below hbr9
         obtain ⟨bs',os',P',hap',hP',hrd9'⟩:=ps_at hr9.sp.rd p hpl
         have hPP:P' = P:=by
          have h2:H.ma.sp[p]? = some P.sp:=hsP'.out
          rw [hPq.out] at hP'
          exact (Option.some.inj hP').symm
         subst hPP
         rw [hap] at hap'
         cases hap'
         have hg9':=hr9.ps P' (List.mem_of_getElem? hP')
         have ho9:=ho8.grown hg9 (fun g hv e=>by
          have:=ho8.ge g hv
          have e2:=Option.some.inj e
          omega)
         clear hbr8 bx8 hIs8 hIh8 hce ex hg9 hw1 hcx ho8 hrd8 hg8 hr9
         go_wp2
         go_roundw
         case rel=>exact ⟨j + 1,by omega,by go_num,hbr9,bx9,hb9,hIs9,by rw [← hpaQ.out]; exact ho9,hrd9',hg9',hz3⟩
         case measure=>simp [intOf]; omega
        ·obtain ⟨K,hK⟩:∃ K:Nat,e.n = K:=⟨e.n.toNat,by omega⟩
         have hk2:e.k = 2:=by omega
         have hKl:K < H.sl.length:=by have:=hlt2.1 hk2; omega
         have hpS2:=hpS'.out
         have hsS2:=hsS'.out
         rw [if_neg hk1,List.append_nil] at hpS2
         rw [if_neg hk1,hK] at hsS2
         rw [hk2,hK] at hce
         have hcx:=hIs8.cell (cntL_get H.sl.length (swapdT H.ma p L2) K hKl)
         have hcl2:=cnt_le (swapdT H.ma p L2) K
         have hw1:IntKind.i64.wrap ((cnt (swapdT H.ma p L2) K:Int) + 1) = (cnt (swapdT H.ma p L2) K:Int) + 1:=IntWalk.i64_in _ (by omega)
         have hKi:(K:Int) < (H.sl.length:Int):=by omega
         have hpS3:=Lib.hid hpS2
         have hsS3:=Lib.hid hsS2
         clear hpS2 hsS2 hlt2 hk1 hk2 hnk hent hK
         go_wp2_with (refine wpList_stv rfl _ _ _ rfl gs K _ [.int .i64 ((cnt (swapdT H.ma p L2) K:Int) + 1)] rfl rfl rfl _ _ hIs8 (by simp [cntL_len]; omega) int_one (fun u hu=>by cases List.mem_singleton.1 hu; rfl) ?_)
         intro w9 hb9 hg9
         rw [IB.set (by rw [cntL_len]; exact hKl),cntL_inc _ _ _ hKl,← swapdT_snoc,← hsS3.out] at hb9
         rw [← hpS3.out] at hIh8
         have hbr9:=hbr8.grown hg9 hbr8.size (fun k hk=>by cases hk; exact hws)
         have bx9:=bx8.grown hg9 (fun e=>hbs (Option.some.inj e).symm)
         have hIh9:IB w9 gh _:=Blk.grown hIh8 hg9 (fun e=>hne (Option.some.inj e).symm)
         have hr9:MaR w9 H:=h.below hbr9
         obtain ⟨bs',os',P',hap',hP',hrd9'⟩:=ps_at hr9.sp.rd p hpl
         have hPP:P' = P:=by
          have h2:H.ma.sp[p]? = some P.sp:=hsP'.out
          rw [hPq.out] at hP'
          exact (Option.some.inj hP').symm
         subst hPP
         rw [hap] at hap'
         cases hap'
         have hg9':=hr9.ps P' (List.mem_of_getElem? hP')
         have ho9:=ho8.grown hg9 (fun g hv e=>by
          have:=ho8.ge g hv
          have e2:=Option.some.inj e
          omega)
         clear hbr8 bx8 hIs8 hIh8 hce ex hg9 hw1 hcx ho8 hrd8 hg8 hr9
         go_wp2
         go_roundw
         case rel=>exact ⟨j + 1,by omega,by go_num,hbr9,bx9,hIh9,hb9,by rw [← hpaQ.out]; exact ho9,hrd9',hg9',hz3⟩
         case measure=>simp [intOf]; omega
       ·have hji:¬ (j:Int) < ((pagesL P.tb).length:Int):=by omega
        rw [List.take_of_length_le (by omega)] at hIh hIs hz2
        have hIh2:IB wr gh (cntL H.m.fs.length (heldT H.ma (p + 1) [])):=by rw [← heldT_next hsP'.out]; exact hIh
        have hIs2:IB wr gs (cntL H.sl.length (swapdT H.ma (p + 1) [])):=by rw [← swapdT_next hsP'.out]; exact hIs
        have hz3:Hid (∀ t ∈ H.ma.sp.take (p + 1),∀ i ∈ pagesL t.tb,entryE H.ma t i = 0):=Lib.hid fun t ht i hi=>by
         rw [take_at hsP'.out] at ht
         rcases List.mem_append.1 ht with ht | ht
         ·exact hz.out t ht i hi
         ·rw [List.mem_singleton.1 ht] at hi ⊢
          exact hz2.out i hi
        clear hIh hIs ho hrd hgood hz hz2
        go_wp2
        go_roundw
        case rel=>
         refine ⟨_,_,_,_,_,_,.int .i64 ((p:Int) + 1),⟨p + 1,by omega,?_,hIh2,hIs2,hz3⟩,rfl,rfl,rfl,rfl,rfl,rfl,rfl⟩
         go_num
        case measure=>simp [intOf]; omega
     ·have hpi:¬ (p:Int) < (H.sp.length:Int):=by omega
      have hpe:p = H.ma.sp.length:=by rw [spH]; omega
      rw [hpe,heldT_end] at hIh
      rw [hpe,swapdT_end] at hIs
      rw [hpe,List.take_length] at hz
      have hwr2:Hid (wrongMa H.ma = if countB H.ma = true then 0 else 7):=Lib.hid (by rw [hwr.out,if_neg (by rw [entries_all hz.out]; simp)])
      clear hz hwr hpe
      have hcb:=bx.cell
      unfold mhC at hcb
      go_upto_region 30 with (fail)
      clear hcb
      go_loopw [104] (fun i wr => ∃ (k:Nat),k ≤ H.m.fs.length ∧ i = .int .i64 k ∧ Below w.heap.size w wr ∧ Blk wr w.heap.size (mhC H) 40 ∧ IB wr gh (cntL H.m.fs.length (heldL H.ma)) ∧ IB wr gs (cntL H.sl.length (swapL H.ma)) ∧ Hid (∀ i,i < k → cndC H.ma i = true)) (fun i _=>H.m.fs.length - (intOf i).toNat)
      case atStart=>exact ⟨0,Nat.zero_le _,rfl,hbr,bx,hIh,hIs,Lib.hid fun i hi=>absurd hi (Nat.not_lt_zero _)⟩
      case round=>
       clear hbr bx hIh hIs
       obtain ⟨k,hk,rfl,hbr,bx,hIh,hIs,hz3⟩:=hrel
       by_cases hkl:k < H.m.fs.length
       ·obtain ⟨bg,og,haf,hrd⟩:=elemR frL_len (by decide) (h.below hbr).fr.rd k hkl
        have hki:(k:Int) < (H.m.fs.length:Int):=by omega
        have hxf:H.m.fs[k] = frN H.ma k:=by
         have:=frN_at (m:=H.ma) (f:=k) hkl
         have h2:H.m.fs[k]? = some (frN H.ma k):=this
         rw [List.getElem?_eq_getElem hkl] at h2
         exact Option.some.inj h2
        rw [hxf] at hrd
        have hcd:Hid (cndC H.ma k = (decide ((frN H.ma k).r = cnt (heldL H.ma) k) && (decide ((frN H.ma k).f < 0) || H.ca.any (isK (k:Int))))):=Lib.hid rfl
        generalize frN H.ma k = x at *
        rw [haf]
        clear hxf
        obtain ⟨gi,hgi⟩:∃ g,g = wr.heap.size:=⟨_,rfl⟩
        go_upto_region 31 with (fail)
        have hgl:gh < wr.heap.size ∧ gs < wr.heap.size:=⟨Blk.lt hIh,Blk.lt hIs⟩
        have hbl:=bx.lt
        have hbA:Below wr.heap.size wr ((wr.alloc (.cells #[.int .i64 0] 3)).alloc (.cells #[.int .u8 0,.int .u8 0,.int .u8 0,.int .u8 0,.int .u8 0,.int .u8 0,.int .u8 0,.int .u8 0,.int .i64 0,.bool false,.bool false,.int .i64 0,.int .i64 0] 59)):=((Below.refl _ _).alloc (Nat.le_refl _) _).alloc (by rw [show (wr.alloc (.cells #[.int .i64 0] 3)).heap.size = wr.heap.size + 1 from Array.size_push _]; omega) _
        have e1:(wr.alloc (.cells #[.int .i64 0] 3)).heap.size = wr.heap.size + 1:=Array.size_push _
        have hB1:Blk ((wr.alloc (.cells #[.int .i64 0] 3)).alloc (.cells #[.int .u8 0,.int .u8 0,.int .u8 0,.int .u8 0,.int .u8 0,.int .u8 0,.int .u8 0,.int .u8 0,.int .i64 0,.bool false,.bool false,.int .i64 0,.int .i64 0] 59)) wr.heap.size #[.int .i64 0] 3:=(Blk.new wr _ _).ext ((Below.refl _ _).alloc (Nat.le_refl _) _)
        have hB2:Blk ((wr.alloc (.cells #[.int .i64 0] 3)).alloc (.cells #[.int .u8 0,.int .u8 0,.int .u8 0,.int .u8 0,.int .u8 0,.int .u8 0,.int .u8 0,.int .u8 0,.int .i64 0,.bool false,.bool false,.int .i64 0,.int .i64 0] 59)) (wr.heap.size + 1) #[.int .u8 0,.int .u8 0,.int .u8 0,.int .u8 0,.int .u8 0,.int .u8 0,.int .u8 0,.int .u8 0,.int .i64 0,.bool false,.bool false,.int .i64 0,.int .i64 0] 59:=by rw [← e1]; exact Blk.new _ _ _
        go_wp2_with (first | (refine wpList_ldg _ _ rfl bg (og + k * 13) rfl rfl _ hrd _ Try.underlying59 rfl frame_size ?_) | (refine wpList_stv rfl _ _ _ rfl wr.heap.size 0 _ [.int .i64 (k:Int)] rfl rfl rfl _ _ hB1 (by show 0 + 1 ≤ 1; decide) int_one (fun u hu=>by cases List.mem_singleton.1 hu; rfl) ?_))
        intro w5 hb5 hg5
        have hb5' : Blk w5 wr.heap.size #[.int .i64 (k:Int)] 3:=hb5
        have hf5:=hB2.grown hg5 (fun e=>by have:=Option.some.inj e; omega)
        have hbA5:=hbA.grown hg5 hbA.size (fun k hk=>by cases hk; exact Nat.le_refl _)
        go_wp2_with (refine wpList_st rfl _ _ _ rfl (wr.heap.size + 1) 0 (frC x) rfl rfl _ _ hf5 (by show 0 + 13 ≤ 13; decide) frame_size (frC_one x) ?_)
        intro w6 hb6 hg6
        have fx6:Blk w6 (wr.heap.size + 1) (frC x) 59:=by
         have e2:=putAt_whole (#[.int .u8 0,.int .u8 0,.int .u8 0,.int .u8 0,.int .u8 0,.int .u8 0,.int .u8 0,.int .u8 0,.int .i64 0,.bool false,.bool false,.int .i64 0,.int .i64 0]) (frC x) rfl
         rw [← e2]; exact hb6
        have ix6:Blk w6 wr.heap.size #[.int .i64 (k:Int)] 3:=hb5'.grown hg6 (fun e=>by have:=Option.some.inj e; omega)
        have hbA6:=hbA5.grown hg6 hbA5.size (fun k hk=>by cases hk; omega)
        have hbr6:=below_next hbr hbA6
        have bx6:=bx.ext hbA6
        have hIh6:IB w6 gh _:=Blk.ext hIh hbA6
        have hIs6:IB w6 gs _:=Blk.ext hIs hbA6
        obtain ⟨gx,hgx⟩:∃ g,g = wr.heap.size + 1:=⟨_,rfl⟩
        rw [← hgx] at fx6 ⊢
        rw [← hgi] at ix6 ⊢
        clear hbA hbA5 hbA6 hB1 hB2 hb5 hb5' hf5 hg5 hg6 hb6 hrd hbr bx hIh hIs e1 hgl hbl hgx hgi
        go_upto_region 32 with (fail)
        by_cases c1:x.r = cnt (heldL H.ma) k
        ·by_cases c2:0 ≤ x.f
         ·skip
          refine wp_growP 19 [_,_,_,_,_,_,_,_,_,_,_,_,_,_,.v (.func (.func 41) #[] #[.pointer (some ⟨gi,0,none⟩)]),.v (.bool (H.ca.any (isK (k:Int)))),_,_,.v (.bool (!(H.ca.any (isK (k:Int)))))] (Gf gx 8 rfl rfl (Gl fx6 rfl rfl rfl rfl rfl (Gk rfl (Gl ix6 (V:=.int .i64 (k:Int)) rfl rfl rfl rfl rfl (Gr (.pointer (some ⟨gh,k,none⟩)) (fun ρ y W hb hk=>(run_idx1 rfl (kx_at rfl hk) (kx_at rfl hk) hkl Try.underlying28 int_one)) rfl rfl (Gc (.int .i64 (cnt (heldL H.ma) k:Int)) (fun W hb=>by simp [IB.cell (Blk.ext hIh6 hb) (cntL_get H.m.fs.length (heldL H.ma) k hkl)]) rfl rfl rfl rfl (Gb (.bool false) (by simp [go_sem,c1]) rfl rfl rfl rfl rfl (Gk rfl (Gf gx 11 rfl rfl (Gl fx6 rfl rfl rfl rfl rfl (Gb (.bool true) (by simp [go_sem,c2]) rfl rfl rfl rfl rfl (Gk rfl (Gf w.heap.size 9 rfl rfl (Gl bx6 rfl rfl rfl rfl rfl (all_cons ?_ (all_cons ?_ (Gr (.bool (!(H.ca.any (isK (k:Int))))) (fun ρ y W hb hk=>run_not rfl (kx_at rfl hk)) rfl rfl (Gk rfl (Gk rfl (all_nil)))))))))))))))))))) (fun _=>rfl) rfl ?_
          ·intro ρ y W hw hn hb hd; have E15:ρ (.tmp 15) = .pointer (some ⟨gi,0,none⟩):=(hn (.tmp 15) rfl).trans rfl
           refine asked_val (.func (.func 41) #[] #[.pointer (some ⟨gi,0,none⟩)]) (want_at 11 120 true true rfl rfl ((hw 120 11 rfl).trans (hd 11 rfl))) (by simp [execOp,go_sem,E15]) rfl
          ·intro ρ y W hw hn hb hd; have E122:=hw 122 13 rfl; have h13:y 13 = _:=hd 13 rfl; have E123:=hw 123 14 rfl; have h14:y 14 = _:=hd 14 rfl
           have EF:∀ f,ρ (.func f) = .func (.func f) #[] #[]:=fun f=>hn (.func f) trivial
           refine asked_call _ _ (want_at 11 120 true true rfl rfl ((hw 120 11 rfl).trans (hd 11 rfl))) (run_call rfl (EF _) Try.func40 (by kernel_rfl) (by kernel_rfl) (by simp only [List.map_toArray,List.map_cons,List.map_nil,E122,h13,E123,h14,EF]; rfl)) ?_
           refine (conk_any H.ca _ _ W ((h.below hbr6).below hb).ca.rd (by omega) gi k (ix6.ext hb)).mono ?_
           rintro r w1 ⟨rfl,hb1⟩
           exact ⟨_,rfl,hb1,rfl⟩
          intro y W7 hbW7 _
          have hbr7:=below_next hbr6 hbW7
          have bx7:=bx6.ext hbW7
          have hIh7:=Blk.ext hIh6 hbW7
          have hIs7:=Blk.ext hIs6 hbW7
          clear hbW7 hbr6 bx6 hIh6 hIs6 ix6 fx6
          cases hA:H.ca.any (isK (k:Int)) with
          | true=>
           have hcnd:Hid (cndC H.ma k = true):=Lib.hid (by rw [hcd.out,decide_eq_true c1,hA]; simp)
           clear c1 c2
           have hall:Hid (∀ i,i < k + 1 → cndC H.ma i = true):=Lib.hid fun i hi=>by
            by_cases e:i = k
            ·rw [e]; exact hcnd.out
            ·exact hz3.out i (by omega)
           go_wp2
           go_roundw
           case rel=>exact ⟨k + 1,by omega,by go_num,hbr7,bx7,hIh7,hIs7,hall⟩
           case measure=>simp [intOf]; omega
          | false=>
           have hcnd:Hid (cndC H.ma k = false):=Lib.hid (by rw [hcd.out,decide_eq_true c1,hA,decide_eq_false (by omega)]; rfl)
           clear c1 c2
           have hq:Hid (wrongMa H.ma = 7):=Lib.hid (by rw [hwr2.out,if_neg]; intro hcb; exact absurd (count_at hcb k hkl) (by rw [hcnd.out]; decide))
           go_wp2
           go_ret
           rw [hq.out]
           exact ⟨rfl,hbr7⟩
         ·have hcnd:Hid (cndC H.ma k = true):=Lib.hid (by rw [hcd.out,decide_eq_true c1,decide_eq_true (by omega)]; rfl)
          refine wp_growP 19 [_,_,_,_,_,_,_,_,_,_,_,_,_,_,_,_,_,_,.v (.bool false)] (Gf gx 8 rfl rfl (Gl fx6 rfl rfl rfl rfl rfl (Gk rfl (Gl ix6 (V:=.int .i64 (k:Int)) rfl rfl rfl rfl rfl (Gr (.pointer (some ⟨gh,k,none⟩)) (fun ρ y W hb hk=>(run_idx1 rfl (kx_at rfl hk) (kx_at rfl hk) hkl Try.underlying28 int_one)) rfl rfl (Gc (.int .i64 (cnt (heldL H.ma) k:Int)) (fun W hb=>by simp [IB.cell (Blk.ext hIh6 hb) (cntL_get H.m.fs.length (heldL H.ma) k hkl)]) rfl rfl rfl rfl (Gb (.bool false) (by simp [go_sem,c1]) rfl rfl rfl rfl rfl (Gk rfl (Gf gx 11 rfl rfl (Gl fx6 rfl rfl rfl rfl rfl (Gb (.bool false) (by simp [go_sem,c2]) rfl rfl rfl rfl rfl (Gk rfl (Gk rfl (Gk rfl (Gk rfl (Gk rfl (Gk rfl (Gk rfl (Gk rfl (all_nil)))))))))))))))))))) (fun _=>rfl) rfl ?_
          intro y W7 hbW7 _
          have hbr7:=below_next hbr6 hbW7
          have bx7:=bx6.ext hbW7
          have hIh7:=Blk.ext hIh6 hbW7
          have hIs7:=Blk.ext hIs6 hbW7
          clear hbW7 hbr6 bx6 hIh6 hIs6 ix6 fx6
          clear c1 c2
          have hall:Hid (∀ i,i < k + 1 → cndC H.ma i = true):=Lib.hid fun i hi=>by
           by_cases e:i = k
           ·rw [e]; exact hcnd.out
           ·exact hz3.out i (by omega)
          go_wp2
          go_roundw
          case rel=>exact ⟨k + 1,by omega,by go_num,hbr7,bx7,hIh7,hIs7,hall⟩
          case measure=>simp [intOf]; omega
        ·have hcnd:Hid (cndC H.ma k = false):=Lib.hid (by rw [hcd.out,decide_eq_false c1]; rfl)
         refine wp_growP 19 [_,_,_,_,_,_,_,_,_,_,_,_,_,_,_,_,_,_,.v (.bool true)] (Gf gx 8 rfl rfl (Gl fx6 rfl rfl rfl rfl rfl (Gk rfl (Gl ix6 (V:=.int .i64 (k:Int)) rfl rfl rfl rfl rfl (Gr (.pointer (some ⟨gh,k,none⟩)) (fun ρ y W hb hk=>(run_idx1 rfl (kx_at rfl hk) (kx_at rfl hk) hkl Try.underlying28 int_one)) rfl rfl (Gc (.int .i64 (cnt (heldL H.ma) k:Int)) (fun W hb=>by simp [IB.cell (Blk.ext hIh6 hb) (cntL_get H.m.fs.length (heldL H.ma) k hkl)]) rfl rfl rfl rfl (Gb (.bool true) (by simp [go_sem,c1]) rfl rfl rfl rfl rfl (Gk rfl (Gk rfl (Gk rfl (Gk rfl (Gk rfl (Gk rfl (Gk rfl (Gk rfl (Gk rfl (Gk rfl (Gk rfl (Gk rfl (all_nil)))))))))))))))))))) (fun _=>rfl) rfl ?_
         intro y W7 hbW7 _
         have hbr7:=below_next hbr6 hbW7
         have bx7:=bx6.ext hbW7
         have hIh7:=Blk.ext hIh6 hbW7
         have hIs7:=Blk.ext hIs6 hbW7
         clear hbW7 hbr6 bx6 hIh6 hIs6 ix6 fx6
         clear c1
         have hq:Hid (wrongMa H.ma = 7):=Lib.hid (by rw [hwr2.out,if_neg]; intro hcb; exact absurd (count_at hcb k hkl) (by rw [hcnd.out]; decide))
         go_wp2
         go_ret
         rw [hq.out]
         exact ⟨rfl,hbr7⟩
       ·have hki:¬ (k:Int) < (H.m.fs.length:Int):=by omega
        have hrs:=(h.below hbr).sl
        have hIsr:RdV wr (some ⟨gs,0,none⟩) ((cntL H.sl.length (swapL H.ma)).map inV):=fun i u hi=>⟨gs,0,rfl,by rw [Nat.zero_add,Blk.cell hIs]; simpa using hi⟩
        have hcb:=bx.cell
        unfold mhC at hcb
        have hll:=Lib.hid (cntL_len H.sl.length (swapL H.ma))
        have hq:Hid (wrongMa H.ma = if H.sl = cntL H.sl.length (swapL H.ma) then 0 else 7):=Lib.hid (by
         rw [hwr2.out,countB_c,List.all_eq_true.2 (fun i hi=>hz3.out i (by have:=List.mem_range.1 hi; have e:H.ma.m.fs.length = H.m.fs.length:=rfl; omega)),Bool.true_and]
         show (if decide (H.sl = cntL H.sl.length (swapL H.ma)) = true then (0:Int) else 7) = _
         by_cases e:H.sl = cntL H.sl.length (swapL H.ma)
         ·rw [if_pos e,if_pos (decide_eq_true e)]
         ·rw [if_neg e,if_neg (by simp [e])])
        have hsl60:=n2
        generalize hC:cntL H.sl.length (swapL H.ma) = C at *
        clear hz3 hwr2 hC
        go_wp2_with fail
        rw [show (Value.slice (some ⟨gs,0,none⟩) H.sl.length H.sl.length) = .slice (some ⟨gs,0,none⟩) C.length H.sl.length from by rw [hll.out]]
        refine (eqslots_any H.sl C H.asl (some ⟨gs,0,none⟩) H.csl H.sl.length _ hrs.rd hIsr (by omega) (by rw [hll.out]; omega)).mono ?_
        rintro r w5 ⟨rfl,hb5⟩
        by_cases e:H.sl = C
        ·rw [show (H.sl == C) = true from by rw [beq_iff_eq]; exact e]
         have hq0:Hid (wrongMa H.ma = 0):=Lib.hid (by rw [hq.out,if_pos e])
         clear e hcb
         go_wp2
         go_ret
         rw [hq0.out]
         exact ⟨rfl,below_next hbr hb5⟩
        ·rw [show (H.sl == C) = false from by rw [beq_eq_false_iff_ne]; exact e]
         have hq0:Hid (wrongMa H.ma = 7):=Lib.hid (by rw [hq.out,if_neg e])
         clear e hcb
         go_wp2
         go_ret
         rw [hq0.out]
         exact ⟨rfl,below_next hbr hb5⟩
theorem blk_ne {w:World} {a b:Nat} {cs cs' : Array Value} {T T' : TypeId} (h:Blk w a cs T) (h' : Blk w b cs' T') (hT:T ≠ T'):a ≠ b:=by
 rintro rfl
 unfold Blk at h h'
 rw [h] at h'
 simp only [Option.some.injEq,Obj.cells.injEq] at h'
 exact hT h'.2.1
def memO (B:Nat) (m:Mem):Rel:=⟨fun v w => ∃ u,v = .agg #[u,.int .i64 m.hand] ∧ Own w B 59 13 u m.fs.length (m.fs.flatMap frL),fun _ _ _ hb ⟨u,h1,h2⟩=>⟨u,h1,h2.below hb⟩⟩
theorem ccs_len (l:List Cc):(l.flatMap ccL).length = l.length * 3:=Pw.flat_len ccL 3 ccL_len l
theorem ccL_one (c:Cc):∀ u ∈ ccL c,u.oneCell' = true:=one_toList (ccC_one c)
theorem ccs_one (l:List Cc):∀ u ∈ l.flatMap ccL,u.oneCell' = true:=by
 intro u hu
 obtain ⟨c,_,hc⟩:=List.mem_flatMap.1 hu
 exact ccL_one c u hc
def stoR (B:Nat) (S:St):Rel:=⟨fun v w => ∃ u ps k,v = .agg #[u,.int .i64 k] ∧ FsO w B u ps ∧ stOf ps k = S,fun _ _ _ hb ⟨u,ps,k,h1,h2,h3⟩=>⟨u,ps,k,h1,h2.below hb,h3⟩⟩
end Go.Proofs.Ytkjobhcnlppcnaa
namespace Pw
open Go Go.RowKit
theorem wp_mono' {P:Program} {Q:Exit → Act → World → Prop} {o:Oper} {a:Act} {w:World} {K K' : Act → World → Prop} (h:∀ v D w,K (Act.put { a with defers:=D } o.dst v) w → K' (Act.put { a with defers:=D } o.dst v) w)
  (hh:o.wp P a w K Q):o.wp P a w K' Q:=by
 unfold Oper.wp at *
 generalize (execOp a.eval o).run P w = r at *
 cases r with
 | ok n w'=>
  cases n <;> simp only [Oper.upon] at hh ⊢ <;>
   first
    | exact h _ a.defers _ hh
    | exact h _ _ _ hh
    | exact Calls.mono hh (fun e w'' he=>by cases e <;> first | exact h _ a.defers _ he | exact he)
    | exact Rows.mono hh (fun _ _ he=>h _ a.defers _ he)
 | halt x w'=>cases x <;> simp only [Oper.upon] at hh ⊢ <;> exact hh
def freeO (v:Value) (o:Oper):Oper:={ o with op:=.move (.const v) }
def freed (ops:Array Oper) (p:Nat) (v:Value):Array Oper:=ops.modify p (freeO v)
theorem freed_get (ops:Array Oper) (p:Nat) (v:Value) (i:Nat):(freed ops p v)[i]? = if p = i then (ops[i]?).map (freeO v) else ops[i]?:=by
 unfold freed
 rw [Array.getElem?_modify]
theorem freed_size (ops:Array Oper) (p:Nat) (v:Value):(freed ops p v).size = ops.size:=by unfold freed; simp
theorem freed_ready (ops:Array Oper) (p:Nat) (v:Value) (listed:Array Bool):Region.ready .any (freed ops p v) listed = Region.ready .any ops listed:=by
 unfold Region.ready
 rw [freed_size]
 apply List.filter_congr
 intro i _
 congr 1
 rw [freed_get]
 by_cases e:p = i
 ·rw [if_pos e]
  cases ops[i]? <;> rfl
 ·rw [if_neg e]
theorem freed_yielded (ops:Array Oper) (p:Nat) (v:Value) (ts:Array Value):yielded (freed ops p v) ts = yielded ops ts:=by
 funext g
 unfold yielded
 rw [freed_get]
 by_cases e:p = g
 ·rw [if_pos e]
  cases ops[g]? <;> rfl
 ·rw [if_neg e]
def freeOk (ops:Array Oper) (p d:Nat):Bool:=
 (match ops[p]? with
  | some o=>(match o.op with
   | .move (.tmp t)=>decide (t = d) && o.guard.isNone && decide (o.dst ≠ some d)
   | _=>false)
  | none=>false) &&
 (List.range ops.size).all fun i=>match ops[i]? with
  | none=>true
  | some o=>decide (o.dst ≠ some d) || o.after.toList.any fun e=>decide (e.on = p) && Region.binds .any e
theorem put_eval {a:Act} {D:List Deferred} {dst:Option Tmp} {v:Value} {d:Nat} (h:dst ≠ some d):(Act.put { a with defers:=D } dst v).eval (.tmp d) = a.eval (.tmp d):=by
 cases dst with
 | none=>rfl
 | some t=>
  have ht:t ≠ d:=fun e=>h (by rw [e])
  simp [Act.put,Act.eval,Array.getElem?_setIfInBounds,ht]
theorem ready_edge {ops:Array Oper} {listed:Array Bool} {i:Nat} {o:Oper} (hi:i ∈ Region.ready .any ops listed) (ho:ops[i]? = some o):listed.getD i false = false ∧ ∀ e ∈ o.after,Region.binds .any e = true → listed.getD e.on false = true:=by
 obtain ⟨h1,o',ho',h2⟩:=mem_ready.1 hi
 rw [ho] at ho'
 cases ho'
 refine ⟨?_,h2⟩
 rw [Array.getD_eq_getD_getElem?] at h1 ⊢
 cases h:listed[i]? with
 | none=>rfl
 | some b=>rw [h] at h1; exact h1
theorem free_any {P:Program} {ops:Array Oper} {Q:Exit → Act → World → Prop} {p d:Nat} {v:Value} (hok0:freeOk ops p d = true):∀ (fuel:Nat) (listed:Array Bool) (a:Act) (w:World),(listed.getD p false = false → a.eval (.tmp d) = v) → wpAny P .any (freed ops p v) Q fuel listed a w → wpAny P .any ops Q fuel listed a w
 | 0,listed,a,w,hI,h=>by
  unfold wpAny at h ⊢
  rw [freed_ready] at h
  exact h
 | fuel + 1,listed,a,w,hI,h=>by
  unfold wpAny at h ⊢
  rw [freed_ready] at h
  refine ⟨h.1,fun i hi => ?_⟩
  have hw:=h.2 i hi
  have hup:(listed.setIfInBounds i true).getD p false = false → listed.getD p false = false:=fun h'=>by
   cases hl:listed.getD p false with
   | false=>rfl
   | true=>
    exfalso
    by_cases hs:i < listed.size
    ·rw [listed_up hs p hl] at h'; cases h'
    ·have e:listed.setIfInBounds i true = listed:=by rw [Array.setIfInBounds_eq_of_size_le (by omega)]
     rw [e,hl] at h'; cases h'
  have hok:=hok0
  unfold freeOk at hok
  rw [Bool.and_eq_true] at hok
  obtain ⟨hp,hall⟩:=hok
  unfold wpOp at hw ⊢
  rw [freed_get,freed_yielded] at hw
  cases ho:ops[i]? with
  | none=>
   rw [ho] at hw
   have hw' : wpAny P .any (freed ops p v) Q fuel (listed.setIfInBounds i true) a w:=by
    by_cases e:p = i
    ·rw [if_pos e] at hw; exact hw
    ·rw [if_neg e] at hw; exact hw
   exact free_any hok0 fuel _ a w (fun h'=>hI (hup h')) hw'
  | some o=>
   rw [ho] at hw
   have hilt:i < ops.size:=(Array.getElem?_eq_some_iff.1 ho).1
   have hedge:=ready_edge hi ho
   by_cases e:p = i
   ·subst e
    rw [if_pos rfl] at hw
    simp only [Option.map_some] at hw
    rw [ho] at hp
    simp only at hp
    cases hop:o.op with
    | move x=>
     rw [hop] at hp
     cases x with
     | tmp t=>
      simp only [Bool.and_eq_true,decide_eq_true_eq] at hp
      obtain ⟨⟨rfl,hg⟩,hdst⟩:=hp
      have hev:a.eval (.tmp t) = v:=hI hedge.1
      have hex:execOp a.eval (freeO v o) = execOp a.eval o:=by
       unfold execOp freeO
       simp only [hop]
       rw [hev]; rfl
      have hnext:∀ (v' : Value) (D:List Deferred) (w:World),wpAny P .any (freed ops p v) Q fuel (listed.setIfInBounds p true) (Act.put { a with defers:=D } o.dst v') w → wpAny P .any ops Q fuel (listed.setIfInBounds p true) (Act.put { a with defers:=D } o.dst v') w:=
       fun v' D w hh=>free_any hok0 fuel _ _ w (fun _=>by rw [put_eval hdst]; exact hev) hh
      simp only
      have hwt:Region.wanted (freeO v o) (yielded ops a.tmps) = Region.wanted o (yielded ops a.tmps):=rfl
      rw [hwt] at hw
      split
      ·rename_i hwant
       rw [if_pos hwant] at hw
       rcases hw with hw | hw
       ·refine .inl (wp_mono' hnext ?_)
        unfold Oper.wp at hw ⊢
        rw [← hex]; exact hw
       ·refine .inr ⟨?_,hw.2⟩
        have:=hw.1
        unfold Oper.asks at this ⊢
        rw [← hex]; exact this
      ·rename_i hwant
       rw [if_neg hwant] at hw
       exact hnext undef a.defers w hw
     | _=>cases hp
    | _=>rw [hop] at hp; cases hp
   ·rw [if_neg e] at hw
    simp only at hw ⊢
    have ho2:=List.all_eq_true.1 hall i (List.mem_range.2 hilt)
    rw [ho] at ho2
    simp only [Bool.or_eq_true,decide_eq_true_eq] at ho2
    have hnext:∀ (v' : Value) (D:List Deferred) (w:World),wpAny P .any (freed ops p v) Q fuel (listed.setIfInBounds i true) (Act.put { a with defers:=D } o.dst v') w → wpAny P .any ops Q fuel (listed.setIfInBounds i true) (Act.put { a with defers:=D } o.dst v') w:=by
     intro v' D w hh
     refine free_any hok0 fuel _ _ w (fun h' => ?_) hh
     rcases ho2 with h2 | h2
     ·rw [put_eval h2]; exact hI (hup h')
     ·rw [List.any_eq_true] at h2
      obtain ⟨e',he',h3⟩:=h2
      rw [Bool.and_eq_true,decide_eq_true_eq] at h3
      have:=hedge.2 e' (Array.mem_toList_iff.1 he') h3.2
      rw [h3.1] at this
      rw [hup h'] at this; cases this
    split
    ·rename_i hwant
     rw [if_pos hwant] at hw
     exact hw.imp (wp_mono' hnext) id
    ·rename_i hwant
     rw [if_neg hwant] at hw
     exact hnext undef a.defers w hw
theorem wp_region_growC0 {P : Program} {ops : Array Oper} {Q : Exit → Act → World → Prop} {a0 : Act} {w0 : World} (m k1 : Nat) (ps : List (Nat × Value)) (hok : growOk ops = true) (ht : tailOkT ops k1 = true) (hcok : cOk ops m ps = true) (hmid : midOk m k1 ps = true) (hpu : puOk ops m ps = true) (hmk : m < k1) (hk1 : k1 ≤ ops.size)
    (R : Nat → Value → World → Prop) (hstab : ∀ i v w w', Below w.heap.size w w' → R i v w → R i v w')
    (hstep : ∀ i o, i < m → puOf ps i = none → ops[i]? = some o → ∀ y w, (∀ i v, puOf ps i = some v → y i = v) → Below w0.heap.size w0 w → (∀ j, o.after.toList.any (fun e => e.on == j) = true → match puOf ps j with | some v => y j = v | none => R j (y j) w) →
      if Region.wanted o (yielded ops (lay (fun _ => true) y ops.toList 0 a0.tmps)) = true then Gives P o { a0 with tmps := lay (fun _ => true) y ops.toList 0 a0.tmps } w (fun v w' => Below w.heap.size w w' ∧ R i v w') else R i undef w)
    (hpure : ∀ i v o, puOf ps i = some v → ops[i]? = some o → ∀ y w, (∀ i v, puOf ps i = some v → y i = v) →
      Region.wanted o (yielded ops (lay (fun _ => true) y ops.toList 0 a0.tmps)) = true ∧ (execOp ({ a0 with tmps := lay (fun _ => true) y ops.toList 0 a0.tmps } : Act).eval o).run P w = .ok (.value v) w)
    (hend : ∀ y w o, ops[m]? = some o → (∀ i v, puOf ps i = some v → y i = v) → Below w0.heap.size w0 w → (∀ i, i < m → match puOf ps i with | some v => y i = v | none => R i (y i) w) →
      Region.wanted o (yielded ops (lay (fun _ => true) y ops.toList 0 a0.tmps)) = true ∧
      Gives P o { a0 with tmps := lay (fun _ => true) y ops.toList 0 a0.tmps } w fun v w' => wpList P ops Q (ops.toList.drop k1) { a0 with tmps := lay (fun i => decide (i < k1)) (fun i => if i = m then v else y i) ops.toList 0 a0.tmps } w') :
    wpAny P .any ops Q ops.size (Array.replicate ops.size false) a0 { w0 with drawn := w0.drawn + 1 } := by
  have hall : ∀ (fuel : Nat) (listed : Array Bool) (a : Act) (w : World), listed.size = ops.size → listed.toList.countP (!·) ≤ fuel → AmidC P ops Q m k1 ps R a0 w0 listed a w → wpAny P .any ops Q fuel listed a w := by
    have hfin : ∀ (fuel : Nat) (listed : Array Bool) (a : Act) (w : World), listed.size = ops.size → listed.toList.countP (!·) ≤ fuel → AmidC P ops Q m k1 ps R a0 w0 listed a w → (∀ i, i < k1 → listed.getD i false = true) → wpAny P .any ops Q fuel listed a w := by
      intro fuel listed a w hsz hc hA hfull
      obtain ⟨hno, hcl, y, hV, ha, hph⟩ := hA
      have hL : ∀ i, i < ops.size → listed.getD i false = decide (i < k1) := by
        intro i hi
        by_cases him : i < k1
        · rw [hfull i him]; simp [him]
        · rw [hno i (by omega)]; simp [him]
      rcases hph with ⟨h1, _⟩ | ⟨_, hw⟩
      · rw [hfull m hmk] at h1; cases h1
      · refine tail_anyT (m := k1) hok ht fuel k1 listed a w (Nat.le_refl _) hk1 (by have := count_tail hsz hk1 hL; omega) hsz hL ?_
        rw [ha, lay_congr (fun i => listed.getD i false) (fun i => decide (i < k1)) y ops.toList 0 a0.tmps (fun k hk => by
          simp only [Nat.zero_add]
          exact hL k (by simpa using hk))]
        exact hw
    intro fuel
    induction fuel with
    | zero =>
      intro listed a w hsz hc hA
      refine hfin 0 listed a w hsz hc hA fun i hi => ?_
      have h0 : listed.toList.countP (!·) = 0 := by omega
      have := List.countP_eq_zero.1 h0 (listed[i]'(by omega)) (by simp)
      simpa [Array.getD_eq_getD_getElem?, show i < listed.size by omega] using this
    | succ fuel ih =>
      intro listed a w hsz hc hA
      by_cases hfull : ∀ i, i < k1 → listed.getD i false = true
      · exact hfin _ listed a w hsz hc hA hfull
      · have hready0 : Region.ready .any ops listed ≠ [] := by
          intro hready
          apply hfull
          intro i
          induction i using Nat.strongRecOn with
          | ind i ih' =>
            intro him
            by_cases hc' : listed.getD i false = true
            · exact hc'
            · exfalso
              have hi : i < ops.size := by omega
              have hmem : i ∈ Region.ready .any ops listed := by
                rw [mem_ready]
                refine ⟨?_, ops[i], by simp [hi], fun e he _ => ?_⟩
                · simpa [Array.getD_eq_getD_getElem?, show i < listed.size by omega] using hc'
                · have := (growOk_at hok (i := i) (o := ops[i]) (by simp [hi])).2.1 e he
                  exact ih' e.on this.2 (by omega)
              rw [hready] at hmem
              cases hmem
        refine ⟨fun h => absurd h hready0, fun i hi => ?_⟩
        obtain ⟨h1, o, ho, hdeps⟩ := mem_ready.1 hi
        have hlt : i < ops.size := (Array.getElem?_eq_some_iff.1 ho).1
        have hls : i < listed.size := by omega
        obtain ⟨hsel, hbinds, _⟩ := growOk_at hok ho
        have hL : ∀ e ∈ o.after, listed.getD e.on false = true := fun e he => hdeps e he (hbinds e he).1
        have hnl : listed.getD i false = false := by simpa [Array.getD_eq_getD_getElem?, hls] using h1
        have him : i < k1 := by
          rcases Nat.lt_or_ge i k1 with h | h
          · exact h
          · exfalso
            apply hfull
            intro j hj
            exact tailOkT_at ht hA.2.1 ho hL h j (by omega)
        obtain ⟨hno, hcl, y, hV, ha, hph⟩ := hA
        have hcl' : ∀ k o', ops[k]? = some o' → (listed.setIfInBounds i true).getD k false = true → ∀ e ∈ o'.after, (listed.setIfInBounds i true).getD e.on false = true := by
          intro k o' ho' hk e he
          apply listed_up hls
          by_cases hki : k = i
          · subst hki
            rw [ho] at ho'
            cases ho'
            exact hL e he
          · rw [listed_ne hki] at hk
            exact hcl k o' ho' hk e he
        have hno' : ∀ k, k1 ≤ k → (listed.setIfInBounds i true).getD k false = false := fun k hk => by rw [listed_ne (by omega)]; exact hno k hk
        have hnext : ∀ v w' y', (∀ k, y' k = if k = i then v else y k) → (∀ i v, puOf ps i = some v → y' i = v) →
            (((listed.setIfInBounds i true).getD m false = false ∧ Below w0.heap.size w0 w' ∧ ∀ k, k < m → puOf ps k = none → (listed.setIfInBounds i true).getD k false = true → R k (y' k) w') ∨
             ((listed.setIfInBounds i true).getD m false = true ∧ wpList P ops Q (ops.toList.drop k1) { a0 with tmps := lay (fun i => decide (i < k1)) y' ops.toList 0 a0.tmps } w')) →
            wpAny P .any ops Q fuel (listed.setIfInBounds i true) (a.put o.dst v) w' := by
          intro v w' y' hy' hV' hph'
          obtain rfl : y' = fun k => if k = i then v else y k := funext hy'
          refine ih _ _ _ (by simp [hsz]) (count_less hls h1 hc) ⟨hno', hcl', _, hV', ?_, hph'⟩
          rw [ha, lay_put hok ho hsz v]
        have heval : ∀ t ∈ o.looksAt ops, a.tmps[t]? = (lay (fun _ => true) y ops.toList 0 a0.tmps)[t]? := fun t ht => by
          rw [ha]; exact evals_lay hok ho hL t ht
        have hexec : execOp a.eval o = execOp ({ a0 with tmps := lay (fun _ => true) y ops.toList 0 a0.tmps } : Act).eval o := by
          refine execOp_congr o hsel fun x hx => ?_
          cases x with
          | tmp t =>
            have := heval t (List.mem_append_left _ (List.mem_filterMap.2 ⟨.tmp t, by simpa using hx, rfl⟩))
            simp [Act.eval, this]
          | _ => rfl
        have hwant : Region.wanted o (yielded ops a.tmps) = Region.wanted o (yielded ops (lay (fun _ => true) y ops.toList 0 a0.tmps)) := by
          unfold Region.wanted
          cases hg : o.guard with
          | none => rfl
          | some gw =>
            obtain ⟨g, want⟩ := gw
            have : yielded ops a.tmps g = yielded ops (lay (fun _ => true) y ops.toList 0 a0.tmps) g := by
              unfold yielded
              cases hd : (ops[g]?).bind (·.dst) with
              | none => rfl
              | some t =>
                have := heval t (List.mem_append_right _ (by simp [hg, hd]))
                simp [this]
            simp only [this]
        cases hp : puOf ps i with
        | some v =>
          have hne := (pu_at hpu ho hp).1
          obtain ⟨hw1, hr1⟩ := hpure i v o hp ho y w hV
          have hg : Gives P o { a0 with tmps := lay (fun _ => true) y ops.toList 0 a0.tmps } w (fun u w' => u = v ∧ w' = w) := by
            unfold Gives
            rw [hr1]
            exact ⟨rfl, rfl⟩
          refine gives_wpOp ho (by rw [hwant]; exact hw1) hexec hg fun u w' hu => ?_
          obtain ⟨rfl, rfl⟩ := hu
          refine hnext u w' y (fun k => ?_) hV ?_
          · by_cases hk : k = i
            · subst hk; rw [if_pos rfl]; exact hV _ _ hp
            · rw [if_neg hk]
          · rcases hph with ⟨h2, h3, h4⟩ | ⟨h2, h3⟩
            · refine .inl ⟨by rw [listed_ne (Ne.symm hne)]; exact h2, h3, fun k hk hpk hLk => ?_⟩
              have hki : k ≠ i := by rintro rfl; rw [hp] at hpk; cases hpk
              rw [listed_ne hki] at hLk
              exact h4 k hk hpk hLk
            · exact .inr ⟨listed_up hls _ h2, h3⟩
        | none =>
          have hile : i ≤ m := by
            rcases Nat.lt_or_ge m i with h | h
            · obtain ⟨v, hv⟩ := mid_at hmid i him h
              rw [hp] at hv
              cases hv
            · exact h
          rcases hph with ⟨h2, h3, h4⟩ | ⟨h2, h3⟩
          · by_cases hic : i = m
            · subst hic
              have hRall : ∀ k, k < i → match puOf ps k with | some v => y k = v | none => R k (y k) w := by
                intro k hk
                cases hpk : puOf ps k with
                | some v => exact hV k v hpk
                | none => exact h4 k hk hpk (cOk_at hcok hcl (fun o' ho' => by rw [ho] at ho'; cases ho'; exact hL) k hk hpk)
              obtain ⟨hw1, hg⟩ := hend y w o ho hV h3 hRall
              refine gives_wpOp ho (by rw [hwant]; exact hw1) hexec hg fun v w' hwp => ?_
              refine hnext v w' (fun k => if k = i then v else y k) (fun _ => rfl) (fun k u hku => ?_) (.inr ⟨listed_self hls, hwp⟩)
              have : k ≠ i := by rintro rfl; rw [hp] at hku; cases hku
              simp only [this, if_false]
              exact hV k u hku
            · have hilt : i < m := by omega
              have hs := hstep i o hilt hp ho y w hV h3 (fun j hj => by
                obtain ⟨e, he, hej⟩ := List.any_eq_true.1 hj
                have hej' : e.on = j := by simpa using hej
                subst hej'
                have he' := Array.mem_toList_iff.1 he
                cases hpj : puOf ps e.on with
                | some v => exact hV _ _ hpj
                | none => exact h4 e.on (by have := (hbinds e he').2; omega) hpj (hL e he'))
              have hgo : ∀ v w', Below w.heap.size w w' → R i v w' → wpAny P .any ops Q fuel (listed.setIfInBounds i true) (a.put o.dst v) w' := by
                intro v w' hbw hv
                refine hnext v w' (fun k => if k = i then v else y k) (fun _ => rfl) (fun k u hku => ?_) (.inl ⟨by rw [listed_ne (Ne.symm hic)]; exact h2, h3.trans (hbw.mono h3.size), fun k hk hpk hLk => ?_⟩)
                · have : k ≠ i := by rintro rfl; rw [hp] at hku; cases hku
                  simp only [this, if_false]
                  exact hV k u hku
                · by_cases hki : k = i
                  · subst hki; simpa using hv
                  · rw [listed_ne hki] at hLk
                    simp only [hki, if_false]
                    exact hstab _ _ _ _ hbw (h4 k hk hpk hLk)
              by_cases hwt : Region.wanted o (yielded ops (lay (fun _ => true) y ops.toList 0 a0.tmps)) = true
              · rw [if_pos hwt] at hs
                exact gives_wpOp ho (by rw [hwant]; exact hwt) hexec hs fun v w' h => hgo v w' h.1 h.2
              · rw [if_neg hwt] at hs
                unfold wpOp
                simp only [ho]
                rw [if_neg (by rw [hwant]; exact hwt)]
                exact hgo undef w (Below.refl _ _) hs
          · exfalso
            by_cases hic : i = m
            · subst hic; rw [hnl] at h2; cases h2
            · have hmo : ∃ om, ops[m]? = some om := ⟨ops[m]'(by omega), by simp [show m < ops.size by omega]⟩
              obtain ⟨om, hom⟩ := hmo
              have := cOk_at hcok hcl (fun o' ho' => hcl m o' ho' h2) i (by omega) hp
              rw [hnl] at this
              cases this
  refine (hall ops.size _ _ _ (by simp) ?_ ⟨fun i _ => ?_, fun i o' ho' hi => ?_, fun i => (puOf ps i).getD undef, fun i v h => (by show (puOf ps i).getD undef = v; rw [h]; rfl), ?_, .inl ⟨?_, ?_, ?_⟩⟩)
  · simpa using List.countP_le_length (p := (!·)) (l := List.replicate ops.size false)
  · simp [Array.getD_eq_getD_getElem?, Array.getElem?_replicate]; split <;> rfl
  · exfalso
    have : i < ops.size := (Array.getElem?_eq_some_iff.1 ho').1
    simp [Array.getD_eq_getD_getElem?, this] at hi
  · have e : ∀ y, lay (fun i => (Array.replicate ops.size false).getD i false) y ops.toList 0 a0.tmps = a0.tmps := by
      intro y
      apply Array.ext_getElem?
      intro s
      exact lay_none _ _ s _ 0 _ fun k o' hk hd => by simp [Array.getD_eq_getD_getElem?, Array.getElem?_replicate]; split <;> rfl
    rw [e]
  · simp [Array.getD_eq_getD_getElem?, Array.getElem?_replicate]; split <;> rfl
  · exact ⟨rfl, rfl, rfl, Nat.le_refl _, fun _ _ => rfl⟩
  · intro i hi _ hL
    simp [Array.getD_eq_getD_getElem?, show i < ops.size by omega] at hL
theorem wp_growC0 {P:Program} {ops:Array Oper} {Q:Exit → Act → World → Prop} {a0:Act} {w0:World} (m k1:Nat) (ps:List (Nat × Value)) (l:List Rel) (hok:growOk ops = true) (ht:tailOkT ops k1 = true) (hcok:cOk ops m ps = true) (hmid:midOk m k1 ps = true) (hpu:puOk ops m ps = true) (hmk:m < k1) (hk1:k1 ≤ ops.size)
  (n:Nat) (hn:a0.tmps.size = n) (hsz:growSize ops n = true)
  (hstep:AllFrom (AskedC P ops a0 w0 ps l) 0 (ops.toList.take m)) (hmidl:AllFrom (AskedC P ops a0 w0 ps l) (m + 1) ((ops.toList.drop (m + 1)).take (k1 - (m + 1))))
  (hpl:ps.all (fun p=>decide (p.1 < k1)) = true)
  (hend:∀ (ρ:Operand → Value) (y:Nat → Value) (w:World) (o:Oper),ops[m]? = some o → (∀ t j,writer ops t = some j → ρ (.tmp t) = y j) → (∀ x,(match x with | .tmp t=>writer ops t = none | _=>True) → ρ x = a0.eval x) → (∀ i v,puOf ps i = some v → y i = v) →
   Below w0.heap.size w0 w → (∀ i,i < m → match puOf ps i with | some v=>y i = v | none=>rl l i (y i) w) →
   Region.wanted o (says ρ ops) = true ∧ GivesR P o ρ w fun v w'=>wpList P ops Q (ops.toList.drop k1) { a0 with tmps:=lay (fun i=>decide (i < k1)) (fun i=>if i = m then v else y i) ops.toList 0 a0.tmps } w') :
  wpAny P .any ops Q ops.size (Array.replicate ops.size false) a0 { w0 with drawn:=w0.drawn + 1 }:=by
 have hwr:∀ (y:Nat → Value) t j,writer ops t = some j → ({ a0 with tmps:=lay (fun _=>true) y ops.toList 0 a0.tmps }:Act).eval (.tmp t) = y j:=by
  intro y t j hw
  unfold writer at hw
  have h1:=List.find?_some hw
  have h2:=List.mem_range.1 (List.mem_of_find?_eq_some hw)
  cases ho:ops[j]? with
  | none=>simp [ho] at h1
  | some p=>
   have hd' : p.dst = some t:=by simpa [ho] using h1
   have hlt:t < a0.tmps.size:=by
    have:=List.all_eq_true.1 hsz p (Array.mem_toList_iff.2 (Array.mem_of_getElem? ho))
    rw [hn]
    simpa [hd'] using this
   have hu:∀ k' o',ops.toList[k']? = some o' → o'.dst = some t → k' = j:=by
    intro k' o' hk' hdk
    rcases ((growOk_at hok (i:=k') (o:=o') (by simpa using hk')).2.2 j p t ho hd').1 with h | h
    ·exact h
    ·exact absurd hdk h
   have:=lay_some (fun _=>true) y t ops.toList 0 a0.tmps j p (by simpa using ho) hd' rfl hu hlt
   simp [Act.eval,this]
 have hno:∀ (y:Nat → Value) x,(match x with | .tmp t=>writer ops t = none | _=>True) → ({ a0 with tmps:=lay (fun _=>true) y ops.toList 0 a0.tmps }:Act).eval x = a0.eval x:=by
  intro y x hx
  cases x with
  | tmp t=>
   have:(lay (fun _=>true) y ops.toList 0 a0.tmps)[t]? = a0.tmps[t]?:=by
    refine lay_none _ y t _ 0 _ fun k o' hk hd' => ?_
    exfalso
    simp only [writer] at hx
    have hk' : ops[k]? = some o':=by simpa using hk
    have hklt:k < ops.size:=(Array.getElem?_eq_some_iff.1 hk').1
    have:=List.find?_eq_none.1 hx k (List.mem_range.2 hklt)
    simp [hk',hd'] at this
   simp [Act.eval,this]
  | _=>rfl
 have hsays:∀ (y:Nat → Value) (o:Oper),Region.wanted o (yielded ops (lay (fun _=>true) y ops.toList 0 a0.tmps)) = Region.wanted o (says ({ a0 with tmps:=lay (fun _=>true) y ops.toList 0 a0.tmps }:Act).eval ops):=by
  intro y o
  congr 1
  funext g
  unfold yielded says
  cases (ops[g]?).bind (·.dst) with
  | none=>rfl
  | some d=>
   simp only [Option.bind_some,Act.eval,Array.getD_eq_getD_getElem?]
   generalize (lay (fun _=>true) y ops.toList 0 a0.tmps)[d]? = q
   cases q with
   | none=>rfl
   | some v=>cases v <;> rfl
 have hask:∀ i o,i < k1 → i ≠ m → ops[i]? = some o → AskedC P ops a0 w0 ps l i o:=by
  intro i o hi hne ho
  rcases Nat.lt_or_ge i m with h | h
  ·have hi' : (ops.toList.take m)[i]? = some o:=by rw [List.getElem?_take,if_pos h]; simpa using ho
   have:=AllFrom.at hstep i o hi'
   rwa [Nat.zero_add] at this
  ·have hi' : ((ops.toList.drop (m + 1)).take (k1 - (m + 1)))[i - (m + 1)]? = some o:=by
    rw [List.getElem?_take,if_pos (by omega),List.getElem?_drop,show m + 1 + (i - (m + 1)) = i by omega]
    simpa using ho
   have:=AllFrom.at hmidl _ o hi'
   rwa [show m + 1 + (i - (m + 1)) = i by omega] at this
 refine wp_region_growC0 m k1 ps hok ht hcok hmid hpu hmk hk1 (rl l) (fun i v w w' hb h=>(l.getD i anyR).st v w w' hb h) (fun i o him hp hi y w hV hb hd => ?_) (fun i v o hp hi y w hV => ?_) (fun y w o hi hV hb hR => ?_)
 ·have:=hask i o (by omega) (by omega) hi
  unfold AskedC at this
  rw [hp] at this
  have h2:=this _ y w (hwr y) (hno y) hb hd
  rw [hsays]
  exact h2
 ·have hik:i < k1:=by
   have h1:(i,v) ∈ ps:=by
    clear hpl hstep hmidl hcok hmid hpu hask hend hV
    unfold puOf at hp
    induction ps with
    | nil=>simp at hp
    | cons q r ih=>
     obtain ⟨a,b⟩:=q
     by_cases e:i = a
     ·subst e; simp at hp; simp [hp]
     ·have:(i == a) = false:=beq_eq_false_iff_ne.2 e
      simp [List.lookup,this] at hp
      exact List.mem_cons_of_mem _ (ih hp)
   simpa using List.all_eq_true.1 hpl _ h1
  have:=hask i o hik (pu_at hpu hi hp).1 hi
  unfold AskedC at this
  rw [hp] at this
  obtain ⟨h1,h2⟩:=this _ y w (hwr y) (hno y) hV
  exact ⟨by rw [hsays]; exact h1,h2⟩
 ·obtain ⟨h1,h2⟩:=hend _ y w o hi (hwr y) (hno y) hV hb hR
  exact ⟨by rw [hsays]; exact h1,h2⟩
def freedL:List Oper → Nat → Value → List Oper
 | [],_,_=>[]
 | o :: r,0,v=>freeO v o :: r
 | o :: r,k + 1,v=>o :: freedL r k v
theorem freed_list (v:Value):∀ (l:List Oper) (p:Nat),l.modify p (freeO v) = freedL l p v
 | [],p=>by cases p <;> rfl
 | o :: r,0=>rfl
 | o :: r,k + 1=>by
  rw [List.modify_succ_cons,freed_list v r k]; rfl
theorem freed_arr (l:List Oper) (p:Nat) (v:Value):freed ⟨l⟩ p v = ⟨freedL l p v⟩:=by
 unfold freed
 rw [← freed_list]
 simp
theorem wp_free {P:Program} {l:List Oper} {Q:Exit → Act → World → Prop} {id:Nat} {a0:Act} {w0:World} (p d:Nat) (v0:Value) (hm:P.follows .mixedOrders = true) (hf:freeOk ⟨l⟩ p d = true) (hv:a0.eval (.tmp d) = v0)
  (h:∀ ops:Array Oper,ops = (freedL l p v0).toArray → wpAny P .any ops Q ops.size (Array.replicate ops.size false) a0 { w0 with drawn:=w0.drawn + 1 }) :
  (Code.region id ⟨l⟩ true).wp P Q a0 w0:=by
 have h:=h _ rfl
 rw [show (freedL l p v0).toArray = freed ⟨l⟩ p v0 from (freed_arr l p v0).symm,freed_size] at h
 exact wp_region_any hm (free_any hf _ _ _ _ (fun _=>hv) h)
end Pw
namespace Go.Proofs.Ytkjobhcnlppcnaa
open Go.RowKit Go.Maps Pw
theorem clone_cached (l:List Cc) (a:Option Addr) (c:Nat) (w:World) (hle:l.length ≤ c) (hnil:a = none → c = 0) (hrd:RdV w a (l.flatMap ccL)) (hb:l.length * 24 ≤ 140737488355328) :
  Calls Try.prog 58 #[.slice a l.length c] w fun e w' => ∃ v,e = .returned v ∧ Own w' w.heap.size 85 3 v l.length (l.flatMap ccL) ∧ Below w.heap.size w w':=by
 cases a with
 | none=>
  have h0:=hnil rfl
  have hl:l = []:=List.eq_nil_of_length_eq_zero (by omega)
  subst hl
  subst h0
  have hq:=fun W=>Lib.run_eql_slice_nil (P:=Try.prog) W 37 _ none 0 0 0 0 Try.underlying37
  go_enter Try.func58,Try.ntmps58
  go_wp2
  go_ret
  exact ⟨_,rfl,by simpa using Own.nil _ _ _ _,Below.refl _ _⟩
 | some ad=>
  have hq:=fun W=>Lib.run_eql_slice_nil (P:=Try.prog) W 37 _ (some ad) l.length c 0 0 Try.underlying37
  go_enter Try.func58,Try.ntmps58
  go_wp2_with (at_builtin; go_must (refine wpList_app rfl _ _ 37 rfl w.heap.size 85 (.agg #[.int .i64 0,.int .i64 0,.int .i64 0]) 3 24 Try.underlying37 cached_info rfl (by decide) _ 0 [] rfl ?own (some ad) l.length c (l.flatMap ccL) rfl (fun h=>(by cases h)) hle (ccs_len l) ?rd (ccs_one l) (by unfold maxLen; omega) (by simpa using hb) ?bb ?k))
  case own=>exact ⟨rfl,.inr ⟨w.heap.size,0,0,#[],rfl,Nat.le_refl _,Blk.new _ _ _,Nat.le_refl _,Nat.zero_le _,by simp,fun j u h=>by simp at h⟩⟩
  case rd=>exact hrd.below ((Below.refl _ _).alloc (Nat.le_refl _) _)
  case bb=>exact le_alloc _ _
  intro v w1 hown hgr
  go_wp2
  go_ret
  exact ⟨v,rfl,by simpa using hown,((Below.refl _ _).alloc (Nat.le_refl _) _).grown hgr (le_alloc _ _) (fun k hk=>by cases hk; exact Nat.le_refl _)⟩
theorem MaZ.fsz {H:MH} (h:MaZ H.ma):FsSz H.fi:=by
 have h1:(H.fi.map PF.fi).length ≤ 1000:=h.st.1
 rw [List.length_map] at h1
 refine ⟨by omega,fun p hp => ?_⟩
 have:=h.st.2 p.fi (List.mem_map.2 ⟨p,hp,rfl⟩)
 have e:p.fi.b.length = p.l.length:=rfl
 omega
theorem MaZ.spz {H:MH} (h:MaZ H.ma) {p:PS} (hp:p ∈ H.sp):p.ar.length ≤ 1000 ∧ TbSz p.tb:=by
 obtain ⟨h1,h2⟩:=h.sp.2 p.sp (List.mem_map.2 ⟨p,hp,rfl⟩)
 exact ⟨h1,fun k hk=>by have:=h2 k hk; have e:p.sp.tb[k].length = p.tb[k].length:=rfl; omega⟩
def spGood (w:World) (B:Nat) (p:PS) (s:Sp):Prop:=p.sp = s ∧ Own w B 69 7 (.slice p.aa p.ar.length p.ac) p.ar.length (p.ar.flatMap arL) ∧ TbO w B (tsC p.ts) p.tb
theorem spGood.below {w w' : World} {B:Nat} {p:PS} {s:Sp} (h:spGood w B p s) (hb:Below w.heap.size w w'):spGood w' B p s:=⟨h.1,h.2.1.below hb,h.2.2.below hb⟩
def spcR (B:Nat) (s:Sp):Rel:=⟨fun v w => ∃ p,v = .agg (psC p) ∧ spGood w B p s,fun _ _ _ hb ⟨p,h1,h2⟩=>⟨p,h1,h2.below hb⟩⟩
def spcS (B:Nat) (s:Sp):Rel:=⟨fun v w => ∃ g p,v = .slice (some ⟨g,0,none⟩) 1 1 ∧ RdV w (some ⟨g,0,none⟩) (psL p) ∧ spGood w B p s,fun _ _ _ hb ⟨g,p,h1,h2,h3⟩=>⟨g,p,h1,h2.below hb,h3.below hb⟩⟩
theorem psC_oneS {w:World} {B:Nat} {p:PS} {s:Sp} (h:spGood w B p s):∀ u ∈ psL p,u.oneCell' = true:=by
 have h1:=h.2.2.rd.one
 rw [← Array.all_toList,List.all_eq_true] at h1
 intro u hu
 simp only [psL,psC,List.mem_cons,List.not_mem_nil,or_false] at hu
 simp only [tsC,List.mem_cons,List.not_mem_nil,or_false] at h1
 rcases hu with rfl | rfl | hu
 ·rfl
 ·rfl
 ·exact h1 u hu
theorem caO_size:(Try.prog.info? 37).map (·.size) = some 1:=by kernel_rfl
theorem grow_sp {w w' : World} {B n c:Nat} {a:Option Addr} {xs:List Value} (ho:Own w B 65 10 (.slice a n c) n xs) (hg:w.grownBy w' (Value.slice a n c).ownBlock) :
  w.grownBy w' none ∨ ∃ g cs,Blk w g cs 65 ∧ B ≤ g ∧ w.grownBy w' (some g):=by
 cases hr:(Value.slice a n c).ownBlock with
 | none=>rw [hr] at hg; exact .inl hg
 | some g=>
  rw [hr] at hg
  obtain ⟨cs,hb⟩:=own_blk ho g hr
  exact .inr ⟨g,cs,hb,ho.ge g hr,hg⟩
theorem grow_own {w w' : World} {B n c B' sz m:Nat} {a:Option Addr} {xs ys:List Value} {T:TypeId} {v:Value} (ho:Own w B 65 10 (.slice a n c) n xs) (hg:w.grownBy w' (Value.slice a n c).ownBlock) (h:Own w B' T sz v m ys) (hT:T ≠ 65):Own w' B' T sz v m ys:=by
 rcases grow_sp ho hg with h1 | ⟨g,cs,hb,_,h1⟩
 ·exact own_stay h h1
 ·exact own_keep h hb (fun e=>hT e.symm) h1
theorem grow_blk {w w' : World} {B n c b:Nat} {a:Option Addr} {xs:List Value} {T:TypeId} {cs:Array Value} (ho:Own w B 65 10 (.slice a n c) n xs) (hg:w.grownBy w' (Value.slice a n c).ownBlock) (h:Blk w b cs T) (hT:T ≠ 65):Blk w' b cs T:=by
 rcases grow_sp ho hg with h1 | ⟨g,cs',hb,_,h1⟩
 ·exact h.grown h1 (fun e=>by cases e)
 ·exact h.grown h1 (fun e=>blk_ne h hb hT (Option.some.inj e).symm)
theorem grow_fs {w w' : World} {B n c B' : Nat} {a:Option Addr} {xs:List Value} {v:Value} {ps:List PF} (ho:Own w B 65 10 (.slice a n c) n xs) (hg:w.grownBy w' (Value.slice a n c).ownBlock) (h:FsO w B' v ps):FsO w' B' v ps:=
 ⟨grow_own ho hg h.own (by decide),fun i p hp=>grow_own ho hg (h.each i p hp) (by decide),h.apart⟩
theorem grow_tb {w w' : World} {B n c B' : Nat} {a:Option Addr} {xs:List Value} {cs:Array Value} {t:Tb} (ho:Own w B 65 10 (.slice a n c) n xs) (hg:w.grownBy w' (Value.slice a n c).ownBlock) (h:TbO w B' cs t):TbO w' B' cs t:=
 ⟨h.sz,fun k hk=>by obtain ⟨v,h1,h2⟩:=h.own k hk; exact ⟨v,h1,grow_own ho hg h2 (by decide)⟩,h.apart⟩
theorem mach_size:(Try.prog.info? 40).map (·.size) = some 11:=by kernel_rfl
theorem slsp_size:(Try.prog.info? 38).map (·.size) = some 1:=by kernel_rfl
theorem machine_own2 (H:MH) (w:World) (h:MaR w H) (hz:MaZ H.ma) :
  Calls Try.prog 13 #[.agg (mhC H)] w fun r w' => ∃ H' : MH,r = .returned (.agg (mhC H')) ∧ MaO w' w.heap.size H' ∧ H'.ma = H.ma ∧ (∀ p ∈ H'.fi,∀ x,oB p.a = some x → oB H'.asl ≠ some x) ∧ Below w.heap.size w w':=by
 have z1:H.m.fs.length ≤ 1000:=hz.fs
 have z2:H.sl.length ≤ 1000:=hz.sl
 have z3:H.sw.blocks.length ≤ 1000:=hz.swb
 have z4:H.sw.queue.length ≤ 1000:=hz.swq
 have z5:H.dk.blocks.length ≤ 1000:=hz.dkb
 have z6:H.dk.queue.length ≤ 1000:=hz.dkq
 have z7:H.ca.length ≤ 1000:=hz.ca
 have z8:H.sp.length ≤ 1000:=by have:=hz.sp.1; rw [spH] at this; exact this
 have zf:=hz.fsz
 go_enter Try.func13,Try.ntmps13
 go_upto_region 1 with (fail)
 refine abs2 (fun W=>Code.wp _ _ _ _ W) fun w1 hb1 bx1 rx1 hs1 => ?_
 have hm1:=h.below hb1
 clear hs1
 refine wp_growY 7 [ofR 0 (isV (.pointer (some ⟨w.heap.size,0,none⟩))),ofR 1 (isV (.agg #[.slice H.af H.m.fs.length H.cf,.int .i64 H.m.hand])),ofR 2 ((memO w1.heap.size H.m)),ofR 3 (isV (.pointer (some ⟨w.heap.size,2,none⟩))),ofR 4 (isV (.slice H.asl H.sl.length H.csl)),ofR 5 ((ownR w1.heap.size 3 1 H.sl.length (H.sl.map inV))),ofR 6 (isV (.pointer (some ⟨w.heap.size,0,none⟩)))] (fun W=>Below w1.heap.size w1 W) (fun _ _ h h2=>below_next h2 h) (Below.refl _ _) (by kernel_rfl) _ rfl (by kernel_rfl) (by kernel_rfl) (by decide) (by kernel_rfl) _ rfl (by kernel_rfl) (all_cons ?_ (all_cons ?_ (all_cons ?_ (all_cons ?_ (all_cons ?_ (all_cons ?_ (all_cons ?_ (all_nil)))))))) ?_
 ·intro ρ y W hw hn hb hd
  refine askY (fun _ _ h h2=>below_next h2 h) hb (isV (.pointer (some ⟨w.heap.size,0,none⟩))) (fun _ _ h=>h) ?_
  have E1:ρ (.tmp 1) = .pointer (some ⟨w.heap.size,0,none⟩):=(hn (.tmp 1) rfl).trans rfl
  refine asked_val (.pointer (some ⟨w.heap.size,0,none⟩)) (want_free rfl) (by simp [execOp,go_sem,stripO,E1]) rfl
 ·intro ρ y W hw hn hb hd
  refine askY (fun _ _ h h2=>below_next h2 h) hb (isV (.agg #[.slice H.af H.m.fs.length H.cf,.int .i64 H.m.hand])) (fun _ _ h=>h) ?_
  have E6:=hw 6 0 rfl
  have h0:y 0 = .pointer (some ⟨w.heap.size,0,none⟩):=hd 0 rfl
  refine asked_val (.agg #[.slice H.af H.m.fs.length H.cf,.int .i64 H.m.hand]) (want_free rfl) (run_load_rd rfl (E6.trans h0) (blk_part (bx1.ext hb) 0 2) Try.underlying27 rfl (by kernel_rfl)) rfl
 ·intro ρ y W hw hn hb hd
  refine askY (fun _ _ h h2=>below_next h2 h) hb ((memO w1.heap.size H.m)) (fun _ _ h=>h) ?_
  have E7:=hw 7 1 rfl
  have h1:y 1 = .agg #[.slice H.af H.m.fs.length H.cf,.int .i64 H.m.hand]:=hd 1 rfl
  have EF:∀ f,ρ (.func f) = .func (.func f) #[] #[]:=fun f=>hn (.func f) trivial
  refine asked_call _ _ (want_free rfl) (run_call rfl (EF _) Try.func54 (by kernel_rfl) (by kernel_rfl) (by simp only [List.map_toArray,List.map_cons,List.map_nil,E7,h1,EF]; rfl)) ?_
  refine (mown_any H.m _ _ W (hm1.below hb).fr (by omega)).mono ?_
  rintro r w3 ⟨u,rfl,ho,hb1⟩
  exact ⟨_,rfl,hb1,u,rfl,ho.mono hb.size⟩
 ·intro ρ y W hw hn hb hd
  refine askY (fun _ _ h h2=>below_next h2 h) hb (isV (.pointer (some ⟨w.heap.size,2,none⟩))) (fun _ _ h=>h) ?_
  have E1:ρ (.tmp 1) = .pointer (some ⟨w.heap.size,0,none⟩):=(hn (.tmp 1) rfl).trans rfl
  refine asked_val (.pointer (some ⟨w.heap.size,2,none⟩)) (want_free rfl) (by simp [execOp,go_sem,stripO,E1]) rfl
 ·intro ρ y W hw hn hb hd
  refine askY (fun _ _ h h2=>below_next h2 h) hb (isV (.slice H.asl H.sl.length H.csl)) (fun _ _ h=>h) ?_
  have E9:=hw 9 3 rfl
  have h3:y 3 = .pointer (some ⟨w.heap.size,2,none⟩):=hd 3 rfl
  refine asked_val (.slice H.asl H.sl.length H.csl) (want_free rfl) (by simp [execOp,go_sem,stripO,E9,h3,(bx1.ext hb).cell,mhC]) rfl
 ·intro ρ y W hw hn hb hd
  refine askY (fun _ _ h h2=>below_next h2 h) hb ((ownR w1.heap.size 3 1 H.sl.length (H.sl.map inV))) (fun _ _ h=>h) ?_
  have E10:=hw 10 4 rfl
  have h4:y 4 = .slice H.asl H.sl.length H.csl:=hd 4 rfl
  have EF:∀ f,ρ (.func f) = .func (.func f) #[] #[]:=fun f=>hn (.func f) trivial
  refine asked_call _ _ (want_free rfl) (run_call rfl (EF _) Try.func55 (by kernel_rfl) (by kernel_rfl) (by simp only [List.map_toArray,List.map_cons,List.map_nil,E10,h4,EF]; rfl)) ?_
  have hs:=(hm1.below hb).sl
  refine (clone_slots H.sl _ _ W hs.le hs.nl hs.rd (by omega)).mono ?_
  rintro r w3 ⟨u,rfl,ho,hb1⟩
  exact ⟨_,rfl,hb1,ho.mono hb.size⟩
 ·intro ρ y W hw hn hb hd
  refine askY (fun _ _ h h2=>below_next h2 h) hb (isV (.pointer (some ⟨w.heap.size,0,none⟩))) (fun _ _ h=>h) ?_
  have E1:ρ (.tmp 1) = .pointer (some ⟨w.heap.size,0,none⟩):=(hn (.tmp 1) rfl).trans rfl
  refine asked_val (.pointer (some ⟨w.heap.size,0,none⟩)) (want_free rfl) (by simp [execOp,go_sem,stripO,E1]) rfl
 intro y w2 hbw2 hRw2
 replace hbw2:Below w1.heap.size w1 w2:=hbw2
 have hy0:y 0 = .pointer (some ⟨w.heap.size,0,none⟩):=hRw2 0 (by decide)
 have hy1:y 1 = .agg #[.slice H.af H.m.fs.length H.cf,.int .i64 H.m.hand]:=hRw2 1 (by decide)
 have hy3:y 3 = .pointer (some ⟨w.heap.size,2,none⟩):=hRw2 3 (by decide)
 have hy4:y 4 = .slice H.asl H.sl.length H.csl:=hRw2 4 (by decide)
 have hy6:y 6 = .pointer (some ⟨w.heap.size,0,none⟩):=hRw2 6 (by decide)
 have hy2:((memO w1.heap.size H.m)).r (y 2) w2:=hRw2 2 (by decide)
 have hy5:((ownR w1.heap.size 3 1 H.sl.length (H.sl.map inV))).r (y 5) w2:=hRw2 5 (by decide)
 clear hRw2
 simp only [lay,strip,stripO,List.map_cons,List.map_nil,Nat.reduceAdd,Nat.reduceLT,decide_true,decide_false,if_true,Bool.false_eq_true,if_false,List.setIfInBounds_toArray,List.set_cons_zero,List.set_cons_succ,List.drop_succ_cons,List.drop_zero,List.drop_nil,hy0,hy1,hy3,hy4,hy6]
 clear hy0 hy1 hy3 hy4 hy6
 obtain ⟨u1,hu1,ho1⟩:=hy2
 have ho2:Own w2 w1.heap.size 3 1 (y 5) H.sl.length (H.sl.map inV):=hy5
 obtain ⟨a1,c1,rfl,_⟩:=ho1.rd
 obtain ⟨a2,c2,hu2,_⟩:=Own.rd ho2
 rw [hu2] at ho2
 rw [hu1,hu2]
 have bx2:=bx1.ext hbw2
 have rx2:=rx1.ext hbw2
 have hbr2:=below_next hb1 hbw2
 have hm2:=hm1.below hbw2
 have hw1:=Lib.hid hb1.size
 have hlt2:=rx2.lt
 clear hbw2 bx1 rx1 hm1 hu1 hu2 hy5
 go_wp2_with (refine wpList_st rfl _ _ _ rfl w.heap.size 0 #[.slice a1 H.m.fs.length c1,.int .i64 H.m.hand] rfl rfl _ _ bx2 (by show 0 + 2 ≤ 11; decide) mem_size (mem_one _ _ _ _) ?_)
 intro w3 bx3 hg3
 have ho13:=own_keep ho1 bx2 (by decide) hg3
 have ho23:=own_keep ho2 bx2 (by decide) hg3
 have hbr3:=hbr2.grown hg3 hbr2.size (fun k hk=>by cases hk; exact Nat.le_refl _)
 have rx3:=rx2.grown hg3 (fun e=>by have:=Option.some.inj e; omega)
 have bx3' : Blk w3 w.heap.size (mhC { H with af:=a1,cf:=c1 }) 40:=bx3
 clear ho1 ho2 bx2 rx2 hm2 hg3 bx3 hbr2
 go_wp2_with (refine wpList_stv rfl _ _ _ rfl w.heap.size 2 _ [.slice a2 H.sl.length c2] rfl rfl rfl _ _ bx3' (by show 2 + 1 ≤ 11; decide) slots_size (fun u hu=>by cases List.mem_singleton.1 hu; rfl) ?_)
 intro w4 bx4 hg4
 have ho14:=own_keep ho13 bx3' (by decide) hg4
 have ho24:=own_keep ho23 bx3' (by decide) hg4
 have hbr4:=hbr3.grown hg4 hbr3.size (fun k hk=>by cases hk; exact Nat.le_refl _)
 have rx4:=rx3.grown hg4 (fun e=>by have:=Option.some.inj e; omega)
 have bx4' : Blk w4 w.heap.size (mhC { H with af:=a1,cf:=c1,asl:=a2,csl:=c2 }) 40:=bx4
 have hm4:=h.below hbr4
 clear ho13 ho23 bx3' rx3 hg4 bx4 hbr3
 obtain ⟨H4,hH4⟩:∃ H4:MH,Hid (H4 = { H with af:=a1,cf:=c1,asl:=a2,csl:=c2 }):=⟨_,Lib.hid rfl⟩
 go_upto_region 2 with (fail)
 refine wp_growY 10 [ofR 0 (isV (.pointer (some ⟨w.heap.size,3,none⟩))),ofR 1 (isV (.agg #[.slice H.wb H.sw.blocks.length H.cwb,.slice H.wq H.sw.queue.length H.cwq])),ofR 2 ((dskR w4.heap.size H.sw)),ofR 3 (isV (.pointer (some ⟨w.heap.size,5,none⟩))),ofR 4 (isV (.agg #[.slice H.db H.dk.blocks.length H.cdb,.slice H.dq H.dk.queue.length H.cdq])),ofR 5 ((dskR w4.heap.size H.dk)),ofR 6 (isV (.pointer (some ⟨w.heap.size,7,none⟩))),ofR 7 (isV (.agg #[.slice H.ai H.fi.length H.ci,.int .i64 H.ct])),ofR 8 ((stoR w4.heap.size (stOf H.fi H.ct))),ofR 9 (isV (.pointer (some ⟨w.heap.size,3,none⟩)))] (fun W=>Below w4.heap.size w4 W) (fun _ _ h h2=>below_next h2 h) (Below.refl _ _) (by kernel_rfl) _ rfl (by kernel_rfl) (by kernel_rfl) (by decide) (by kernel_rfl) _ rfl (by kernel_rfl) (all_cons ?_ (all_cons ?_ (all_cons ?_ (all_cons ?_ (all_cons ?_ (all_cons ?_ (all_cons ?_ (all_cons ?_ (all_cons ?_ (all_cons ?_ (all_nil))))))))))) ?_
 ·intro ρ y W hw hn hb hd
  refine askY (fun _ _ h h2=>below_next h2 h) hb (isV (.pointer (some ⟨w.heap.size,3,none⟩))) (fun _ _ h=>h) ?_
  have E1:ρ (.tmp 1) = .pointer (some ⟨w.heap.size,0,none⟩):=(hn (.tmp 1) rfl).trans rfl
  refine asked_val (.pointer (some ⟨w.heap.size,3,none⟩)) (want_free rfl) (by simp [execOp,go_sem,stripO,E1]) rfl
 ·intro ρ y W hw hn hb hd
  refine askY (fun _ _ h h2=>below_next h2 h) hb (isV (.agg #[.slice H.wb H.sw.blocks.length H.cwb,.slice H.wq H.sw.queue.length H.cwq])) (fun _ _ h=>h) ?_
  have E14:=hw 14 0 rfl
  have h0:y 0 = .pointer (some ⟨w.heap.size,3,none⟩):=hd 0 rfl
  refine asked_val (.agg #[.slice H.wb H.sw.blocks.length H.cwb,.slice H.wq H.sw.queue.length H.cwq]) (want_free rfl) (run_load_rd rfl (E14.trans h0) (blk_part (bx4'.ext hb) 3 2) Try.underlying33 rfl (by kernel_rfl)) rfl
 ·intro ρ y W hw hn hb hd
  refine askY (fun _ _ h h2=>below_next h2 h) hb ((dskR w4.heap.size H.sw)) (fun _ _ h=>h) ?_
  have E15:=hw 15 1 rfl
  have h1:y 1 = .agg #[.slice H.wb H.sw.blocks.length H.cwb,.slice H.wq H.sw.queue.length H.cwq]:=hd 1 rfl
  have EF:∀ f,ρ (.func f) = .func (.func f) #[] #[]:=fun f=>hn (.func f) trivial
  refine asked_call _ _ (want_free rfl) (run_call rfl (EF _) Try.func56 (by kernel_rfl) (by kernel_rfl) (by simp only [List.map_toArray,List.map_cons,List.map_nil,E15,h1,EF]; rfl)) ?_
  refine (down_any H.sw _ _ _ _ W (hm4.below hb).sw (by omega) (by omega)).mono ?_
  rintro r w3 ⟨u,v,rfl,ho,hb1⟩
  exact ⟨_,rfl,hb1,u,v,rfl,ho.mono hb.size⟩
 ·intro ρ y W hw hn hb hd
  refine askY (fun _ _ h h2=>below_next h2 h) hb (isV (.pointer (some ⟨w.heap.size,5,none⟩))) (fun _ _ h=>h) ?_
  have E1:ρ (.tmp 1) = .pointer (some ⟨w.heap.size,0,none⟩):=(hn (.tmp 1) rfl).trans rfl
  refine asked_val (.pointer (some ⟨w.heap.size,5,none⟩)) (want_free rfl) (by simp [execOp,go_sem,stripO,E1]) rfl
 ·intro ρ y W hw hn hb hd
  refine askY (fun _ _ h h2=>below_next h2 h) hb (isV (.agg #[.slice H.db H.dk.blocks.length H.cdb,.slice H.dq H.dk.queue.length H.cdq])) (fun _ _ h=>h) ?_
  have E17:=hw 17 3 rfl
  have h3:y 3 = .pointer (some ⟨w.heap.size,5,none⟩):=hd 3 rfl
  refine asked_val (.agg #[.slice H.db H.dk.blocks.length H.cdb,.slice H.dq H.dk.queue.length H.cdq]) (want_free rfl) (run_load_rd rfl (E17.trans h3) (blk_part (bx4'.ext hb) 5 2) Try.underlying33 rfl (by kernel_rfl)) rfl
 ·intro ρ y W hw hn hb hd
  refine askY (fun _ _ h h2=>below_next h2 h) hb ((dskR w4.heap.size H.dk)) (fun _ _ h=>h) ?_
  have E18:=hw 18 4 rfl
  have h4:y 4 = .agg #[.slice H.db H.dk.blocks.length H.cdb,.slice H.dq H.dk.queue.length H.cdq]:=hd 4 rfl
  have EF:∀ f,ρ (.func f) = .func (.func f) #[] #[]:=fun f=>hn (.func f) trivial
  refine asked_call _ _ (want_free rfl) (run_call rfl (EF _) Try.func56 (by kernel_rfl) (by kernel_rfl) (by simp only [List.map_toArray,List.map_cons,List.map_nil,E18,h4,EF]; rfl)) ?_
  refine (down_any H.dk _ _ _ _ W (hm4.below hb).dk (by omega) (by omega)).mono ?_
  rintro r w3 ⟨u,v,rfl,ho,hb1⟩
  exact ⟨_,rfl,hb1,u,v,rfl,ho.mono hb.size⟩
 ·intro ρ y W hw hn hb hd
  refine askY (fun _ _ h h2=>below_next h2 h) hb (isV (.pointer (some ⟨w.heap.size,7,none⟩))) (fun _ _ h=>h) ?_
  have E1:ρ (.tmp 1) = .pointer (some ⟨w.heap.size,0,none⟩):=(hn (.tmp 1) rfl).trans rfl
  refine asked_val (.pointer (some ⟨w.heap.size,7,none⟩)) (want_free rfl) (by simp [execOp,go_sem,stripO,E1]) rfl
 ·intro ρ y W hw hn hb hd
  refine askY (fun _ _ h h2=>below_next h2 h) hb (isV (.agg #[.slice H.ai H.fi.length H.ci,.int .i64 H.ct])) (fun _ _ h=>h) ?_
  have E20:=hw 20 6 rfl
  have h6:y 6 = .pointer (some ⟨w.heap.size,7,none⟩):=hd 6 rfl
  refine asked_val (.agg #[.slice H.ai H.fi.length H.ci,.int .i64 H.ct]) (want_free rfl) (run_load_rd rfl (E20.trans h6) (blk_part (bx4'.ext hb) 7 2) Try.underlying36 rfl (by kernel_rfl)) rfl
 ·intro ρ y W hw hn hb hd
  refine askY (fun _ _ h h2=>below_next h2 h) hb ((stoR w4.heap.size (stOf H.fi H.ct))) (fun _ _ h=>h) ?_
  have E21:=hw 21 7 rfl
  have h7:y 7 = .agg #[.slice H.ai H.fi.length H.ci,.int .i64 H.ct]:=hd 7 rfl
  have EF:∀ f,ρ (.func f) = .func (.func f) #[] #[]:=fun f=>hn (.func f) trivial
  refine asked_call _ _ (want_free rfl) (run_call rfl (EF _) Try.func57 (by kernel_rfl) (by kernel_rfl) (by simp only [List.map_toArray,List.map_cons,List.map_nil,E21,h7,EF]; rfl)) ?_
  refine (sown_any H.fi H.ct _ _ W (hm4.below hb).st zf).mono ?_
  rintro r w3 ⟨u,ps,rfl,ho,he,hb1⟩
  exact ⟨_,rfl,hb1,u,ps,_,rfl,ho.mono hb.size,by unfold stOf; rw [he]⟩
 ·intro ρ y W hw hn hb hd
  refine askY (fun _ _ h h2=>below_next h2 h) hb (isV (.pointer (some ⟨w.heap.size,3,none⟩))) (fun _ _ h=>h) ?_
  have E1:ρ (.tmp 1) = .pointer (some ⟨w.heap.size,0,none⟩):=(hn (.tmp 1) rfl).trans rfl
  refine asked_val (.pointer (some ⟨w.heap.size,3,none⟩)) (want_free rfl) (by simp [execOp,go_sem,stripO,E1]) rfl
 intro y w5 hbw5 hRw5
 replace hbw5:Below w4.heap.size w4 w5:=hbw5
 have hy0:y 0 = .pointer (some ⟨w.heap.size,3,none⟩):=hRw5 0 (by decide)
 have hy1:y 1 = .agg #[.slice H.wb H.sw.blocks.length H.cwb,.slice H.wq H.sw.queue.length H.cwq]:=hRw5 1 (by decide)
 have hy3:y 3 = .pointer (some ⟨w.heap.size,5,none⟩):=hRw5 3 (by decide)
 have hy4:y 4 = .agg #[.slice H.db H.dk.blocks.length H.cdb,.slice H.dq H.dk.queue.length H.cdq]:=hRw5 4 (by decide)
 have hy6:y 6 = .pointer (some ⟨w.heap.size,7,none⟩):=hRw5 6 (by decide)
 have hy7:y 7 = .agg #[.slice H.ai H.fi.length H.ci,.int .i64 H.ct]:=hRw5 7 (by decide)
 have hy9:y 9 = .pointer (some ⟨w.heap.size,3,none⟩):=hRw5 9 (by decide)
 have hy2:((dskR w4.heap.size H.sw)).r (y 2) w5:=hRw5 2 (by decide)
 have hy5:((dskR w4.heap.size H.dk)).r (y 5) w5:=hRw5 5 (by decide)
 have hy8:((stoR w4.heap.size (stOf H.fi H.ct))).r (y 8) w5:=hRw5 8 (by decide)
 clear hRw5
 simp only [lay,strip,stripO,List.map_cons,List.map_nil,Nat.reduceAdd,Nat.reduceLT,decide_true,decide_false,if_true,Bool.false_eq_true,if_false,List.setIfInBounds_toArray,List.set_cons_zero,List.set_cons_succ,List.drop_succ_cons,List.drop_zero,List.drop_nil,hy0,hy1,hy3,hy4,hy6,hy7,hy9]
 clear hy0 hy1 hy3 hy4 hy6 hy7 hy9
 obtain ⟨ub,uq,hu3,ho3⟩:=hy2
 obtain ⟨vb,vq,hu4,ho4⟩:=hy5
 obtain ⟨us,ps,ks,hu5,ho5,hst⟩:=hy8
 have hks : -9223372036854775808 ≤ ks ∧ ks ≤ 9223372036854775807:=by have e:ks = H.ct:=congrArg St.count hst; rw [e]; exact h.c64
 obtain ⟨ab,cb,rfl,_⟩:=ho3.b.rd
 obtain ⟨aq,cq,rfl,_⟩:=ho3.q.rd
 obtain ⟨db,eb,rfl,_⟩:=ho4.b.rd
 obtain ⟨dq,eq,rfl,_⟩:=ho4.q.rd
 obtain ⟨as_,cs,rfl,_⟩:=ho5.rd
 rw [hu3,hu4,hu5]
 have hn2:Hid (∀ p ∈ ps,∀ x,oB p.a = some x → oB a2 ≠ some x):=Lib.hid (fun p hp x hx e=>by
  have h1:=(own_oB ho24 e).2.choose_spec.lt
  obtain ⟨i,hi,rfl⟩:=List.mem_iff_getElem.1 hp
  have h2:=(own_oB (ho5.each i _ (List.getElem?_eq_getElem hi)) hx).1
  omega)
 have bx5:=bx4'.ext hbw5
 have rx5:=rx4.ext hbw5
 have hbr5:=below_next hbr4 hbw5
 have ho15:=ho14.below hbw5
 have ho25:=ho24.below hbw5
 have hw14:=Lib.hid hbr4.size
 clear hbw5 bx4' rx4 hm4 hu3 hu4 hu5 ho14 ho24 hbr4
 go_wp2_with (refine wpList_st rfl _ _ _ rfl w.heap.size 3 #[.slice ab H.sw.blocks.length cb,.slice aq H.sw.queue.length cq] rfl rfl _ _ bx5 (by show 3 + 2 ≤ 11; decide) disk_size (sl_one _ _ _ _ _ _) ?_)
 intro w6 bx6 hg6
 have hbr6:=hbr5.grown hg6 hbr5.size (fun k hk=>by cases hk; exact Nat.le_refl _)
 have rx6:=rx5.grown hg6 (fun e=>by have:=Option.some.inj e; omega)
 have p1:=own_keep ho15 bx5 (by decide) hg6
 have p2:=own_keep ho25 bx5 (by decide) hg6
 have p3:=ho3.keep bx5 (by decide) (by decide) hg6
 have p4:=ho4.keep bx5 (by decide) (by decide) hg6
 have p5:=ho5.keep bx5 (by decide) (by decide) hg6
 clear bx5 rx5 hg6 ho15 ho25 ho3 ho4 ho5 hbr5
 go_wp2_with (refine wpList_st rfl _ _ _ rfl w.heap.size 5 #[.slice db H.dk.blocks.length eb,.slice dq H.dk.queue.length eq] rfl rfl _ _ bx6 (by show 5 + 2 ≤ 11; decide) disk_size (sl_one _ _ _ _ _ _) ?_)
 intro w7 bx7 hg7
 have hbr7:=hbr6.grown hg7 hbr6.size (fun k hk=>by cases hk; exact Nat.le_refl _)
 have rx7:=rx6.grown hg7 (fun e=>by have:=Option.some.inj e; omega)
 have q1:=own_keep p1 bx6 (by decide) hg7
 have q2:=own_keep p2 bx6 (by decide) hg7
 have q3:=p3.keep bx6 (by decide) (by decide) hg7
 have q4:=p4.keep bx6 (by decide) (by decide) hg7
 have q5:=p5.keep bx6 (by decide) (by decide) hg7
 clear bx6 rx6 hg7 p1 p2 p3 p4 p5 hbr6
 go_wp2_with (refine wpList_st rfl _ _ _ rfl w.heap.size 7 #[.slice as_ ps.length cs,.int .i64 ks] rfl rfl _ _ bx7 (by show 7 + 2 ≤ 11; decide) store_size (sl_in _ _ _ _) ?_)
 intro w8 bx8 hg8
 have hbr8:=hbr7.grown hg8 hbr7.size (fun k hk=>by cases hk; exact Nat.le_refl _)
 have rx8:=rx7.grown hg8 (fun e=>by have:=Option.some.inj e; omega)
 have p1:=own_keep q1 bx7 (by decide) hg8
 have p2:=own_keep q2 bx7 (by decide) hg8
 have p3:=q3.keep bx7 (by decide) (by decide) hg8
 have p4:=q4.keep bx7 (by decide) (by decide) hg8
 have p5:=q5.keep bx7 (by decide) (by decide) hg8
 obtain ⟨H8,hH8⟩:∃ H8:MH,Hid (H8 = { H with af:=a1,cf:=c1,asl:=a2,csl:=c2,wb:=ab,cwb:=cb,wq:=aq,cwq:=cq,db:=db,cdb:=eb,dq:=dq,cdq:=eq,ai:=as_,ci:=cs,fi:=ps,ct:=ks }):=⟨_,Lib.hid rfl⟩
 have bx8' : Blk w8 w.heap.size (mhC H8) 40:=by rw [hH8.out]; exact bx8
 have hm8:=h.below hbr8
 clear bx7 rx7 hg8 bx8 q1 q2 q3 q4 q5 hbr7
 have hcb:w8.cell? ⟨w.heap.size,9,none⟩ = some (.slice H.ac H.ca.length H.cc):=by rw [bx8'.cell,hH8.out]; rfl
 go_wp2_with fail
 refine (clone_cached H.ca H.ac H.cc _ hm8.ca.le hm8.ca.nl hm8.ca.rd (by omega)).mono ?_
 rintro r w9 ⟨v9,rfl,ho9,hb9⟩
 obtain ⟨a6,c6,rfl,_⟩:=ho9.rd
 have bx9:=bx8'.ext hb9
 have rx9:=rx8.ext hb9
 have hbr9:=below_next hbr8 hb9
 have q1:=p1.below hb9
 have q2:=p2.below hb9
 have q3:=p3.below hb9
 have q4:=p4.below hb9
 have q5:=p5.below hb9
 have hw8:=Lib.hid hbr8.size
 clear hcb bx8' rx8 hm8 p1 p2 p3 p4 p5 hb9 hbr8
 go_wp2_with (refine wpList_stv rfl _ _ _ rfl w.heap.size 9 _ [.slice a6 H.ca.length c6] rfl rfl rfl _ _ bx9 (by show 9 + 1 ≤ 11; decide) caO_size (fun u hu=>by cases List.mem_singleton.1 hu; rfl) ?_)
 intro w10 bx10 hg10
 have hbr10:=hbr9.grown hg10 hbr9.size (fun k hk=>by cases hk; exact Nat.le_refl _)
 have rx10:=rx9.grown hg10 (fun e=>by have:=Option.some.inj e; omega)
 have p1:=(own_keep q1 bx9 (by decide) hg10).mono hw1.out
 have p2:=(own_keep q2 bx9 (by decide) hg10).mono hw1.out
 have p3:=(q3.keep bx9 (by decide) (by decide) hg10).mono hw14.out
 have p4:=(q4.keep bx9 (by decide) (by decide) hg10).mono hw14.out
 have p5:=(q5.keep bx9 (by decide) (by decide) hg10).mono hw14.out
 have p6:=(own_keep ho9 bx9 (by decide) hg10).mono hw8.out
 obtain ⟨G,hG⟩:∃ G:MH,Hid (G = { H with af:=a1,cf:=c1,asl:=a2,csl:=c2,wb:=ab,cwb:=cb,wq:=aq,cwq:=cq,db:=db,cdb:=eb,dq:=dq,cdq:=eq,ai:=as_,ci:=cs,fi:=ps,ct:=ks,ac:=a6,cc:=c6 }):=⟨_,Lib.hid rfl⟩
 have bxG:Blk w10 w.heap.size (mhC G) 40:=by rw [hG.out]; rw [hH8.out] at bx10; exact bx10
 clear bx9 rx9 hg10 bx10 q1 q2 q3 q4 q5 ho9 hbr9
 have hGap:Hid (G.ap = H.ap ∧ G.sp = H.sp ∧ G.cp = H.cp):=Lib.hid (by rw [hG.out]; exact ⟨rfl,rfl,rfl⟩)
 have hcb:w10.cell? ⟨w.heap.size,10,none⟩ = some (.slice H.ap H.sp.length H.cp):=by rw [bxG.cell,hG.out]; rfl
 have hm10:=h.below hbr10
 have ho0:Own w10 w.heap.size 65 10 (.slice none 0 0) ([]:List PS).length (([]:List PS).flatMap psL):=by simpa using Own.nil _ _ _ _
 go_upto_region 6 with (fail)
 clear hcb hm10
 go_loopw [3,33] (fun s3 i wr => ∃ (q:Nat) (qs:List PS) (av:Option Addr) (cv:Nat),q ≤ H.sp.length ∧ i = .int .i64 q ∧ s3 = .slice av qs.length cv ∧ Below w.heap.size w wr ∧ Blk wr w.heap.size (mhC G) 40 ∧ Blk wr (w.heap.size + 1) _ 40 ∧
  Own wr w.heap.size 59 13 (.slice a1 H.m.fs.length c1) H.m.fs.length (H.m.fs.flatMap frL) ∧ Own wr w.heap.size 3 1 (.slice a2 H.sl.length c2) H.sl.length (H.sl.map inV) ∧ DOwn wr w.heap.size (.slice ab H.sw.blocks.length cb) (.slice aq H.sw.queue.length cq) H.sw ∧ DOwn wr w.heap.size (.slice db H.dk.blocks.length eb) (.slice dq H.dk.queue.length eq) H.dk ∧
  FsO wr w.heap.size (.slice as_ ps.length cs) ps ∧ Own wr w.heap.size 85 3 (.slice a6 H.ca.length c6) H.ca.length (H.ca.flatMap ccL) ∧ Own wr w.heap.size 65 10 (.slice av qs.length cv) qs.length (qs.flatMap psL) ∧ (∀ p ∈ qs,spGood wr w.heap.size p p.sp ∧ TbSz p.tb) ∧ Hid (qs.map PS.sp = (H.sp.take q).map PS.sp)) (fun _ i _=>H.sp.length - (intOf i).toNat)
 case atStart=>exact ⟨0,[],none,0,Nat.zero_le _,rfl,rfl,hbr10,bxG,rx10,p1,p2,p3,p4,p5,p6,ho0,fun p hp=>(by simp at hp),Lib.hid rfl⟩
 case round=>
  clear hbr10 bxG rx10 p1 p2 p3 p4 p5 p6 ho0
  obtain ⟨q,qs,av,cv,hq,rfl,rfl,hbr,bx,rx,p1,p2,p3,p4,p5,p6,ho,hps,hqs⟩:=hrel
  have hql:qs.length ≤ q:=by
   have:=congrArg List.length hqs.out
   rw [List.length_map,List.length_map,List.length_take] at this
   omega
  by_cases hql2:q < H.sp.length
  ·obtain ⟨bs,os,P,hap,hP,hrd⟩:=ps_at (h.below hbr).sp.rd q hql2
   have hgood:=ps_good (h.below hbr) hP
   have hPm:=List.mem_of_getElem? hP
   obtain ⟨hz1,hz2⟩:=hz.spz hPm
   have hqi:(q:Int) < (H.sp.length:Int):=by omega
   have hqs2:Hid (qs.map PS.sp ++ [P.sp] = (H.sp.take (q + 1)).map PS.sp):=Lib.hid (by rw [take_at hP,List.map_append,hqs.out]; rfl)
   rw [hap]
   have hps1:(psC P).all (·.oneCell') = true:=by
    rw [← Array.all_toList,List.all_eq_true]; exact hgood.one
   go_wp2_with (first | (refine wpList_ldg _ _ rfl bs (os + q * 10) rfl rfl _ hrd _ Try.underlying65 rfl space_size ?_) | (refine wpList_stn rfl _ _ _ rfl (psC P) rfl rfl rfl space_size hps1 ?_))
   intro w11 hb11 fx
   have hbr11:=below_next hbr hb11
   have hg11:=hgood.below hb11
   have bx11:=bx.ext hb11
   have rx11:=rx.ext hb11
   have q1:=p1.below hb11
   have q2:=p2.below hb11
   have q3:=p3.below hb11
   have q4:=p4.below hb11
   have q5:=p5.below hb11
   have q6:=p6.below hb11
   have hO:=ho.below hb11
   have hps11:∀ p ∈ qs,spGood w11 w.heap.size p p.sp ∧ TbSz p.tb:=fun p hp=>⟨(hps p hp).1.below hb11,(hps p hp).2⟩
   have hgw:=Lib.hid hbr11.size
   clear hbr hgood bx rx p1 p2 p3 p4 p5 p6 ho hps hb11 hrd hps1 hP
   go_upto_region 8 with (fail)
   refine wp_free 0 3 (.slice av qs.length cv) (by kernel_rfl) (by kernel_rfl) rfl fun ops0 hops0 => ?_
   simp only [freedL,freeO] at hops0
   subst hops0
   refine wp_growC0 11 12 [] [isV (.slice av qs.length cv),isV (.pointer (some ⟨wr.heap.size,0,none⟩)),isV (.bool P.lv),isV (.pointer (some ⟨wr.heap.size,1,none⟩)),isV (.slice P.aa P.ar.length P.ac),(ownR w11.heap.size 69 7 P.ar.length (P.ar.flatMap arL)),isV (.pointer (some ⟨wr.heap.size,2,none⟩)),isV (.agg (tsC P.ts)),(tabO w11.heap.size P.tb),(spcR w11.heap.size P.sp),(spcS w11.heap.size P.sp)] (by kernel_rfl) (by kernel_rfl) (by kernel_rfl) (by kernel_rfl) (by kernel_rfl) (by decide) (Nat.le_of_ble_eq_true (by kernel_rfl)) _ rfl (by kernel_rfl) (all_cons ?_ (all_cons ?_ (all_cons ?_ (all_cons ?_ (all_cons ?_ (all_cons ?_ (all_cons ?_ (all_cons ?_ (all_cons ?_ (all_cons ?_ (all_cons ?_ (all_nil)))))))))))) (all_nil) rfl ?_
   ·refine askedC_not rfl ?_
    intro ρ y W hw hn hb hd
    refine asked_val (.slice av qs.length cv) (want_free rfl) (run_move (.inl rfl) (hn (.const _) trivial)) rfl
   ·refine askedC_not rfl ?_
    intro ρ y W hw hn hb hd
    have E5:ρ (.tmp 5) = .pointer (some ⟨wr.heap.size,0,none⟩):=(hn (.tmp 5) rfl).trans rfl
    refine asked_val (.pointer (some ⟨wr.heap.size,0,none⟩)) (want_free rfl) (by simp [execOp,go_sem,E5]) rfl
   ·refine askedC_not rfl ?_
    intro ρ y W hw hn hb hd
    have E38:=hw 38 1 rfl
    have h1:y 1 = .pointer (some ⟨wr.heap.size,0,none⟩):=hd 1 rfl
    refine asked_val (.bool P.lv) (want_free rfl) (by simp [execOp,go_sem,E38,h1,(fx.ext hb).cell,psC]) rfl
   ·refine askedC_not rfl ?_
    intro ρ y W hw hn hb hd
    have E5:ρ (.tmp 5) = .pointer (some ⟨wr.heap.size,0,none⟩):=(hn (.tmp 5) rfl).trans rfl
    refine asked_val (.pointer (some ⟨wr.heap.size,1,none⟩)) (want_free rfl) (by simp [execOp,go_sem,E5]) rfl
   ·refine askedC_not rfl ?_
    intro ρ y W hw hn hb hd
    have E40:=hw 40 3 rfl
    have h3:y 3 = .pointer (some ⟨wr.heap.size,1,none⟩):=hd 3 rfl
    refine asked_val (.slice P.aa P.ar.length P.ac) (want_free rfl) (by simp [execOp,go_sem,E40,h3,(fx.ext hb).cell,psC]) rfl
   ·refine askedC_not rfl ?_
    intro ρ y W hw hn hb hd
    have E41:=hw 41 4 rfl
    have h4:y 4 = .slice P.aa P.ar.length P.ac:=hd 4 rfl
    have EF:∀ f,ρ (.func f) = .func (.func f) #[] #[]:=fun f=>hn (.func f) trivial
    refine asked_call _ _ (want_free rfl) (run_call rfl (EF _) Try.func59 (by kernel_rfl) (by kernel_rfl) (by simp only [List.map_toArray,List.map_cons,List.map_nil,E41,h4,EF]; rfl)) ?_
    have hA:=(hg11.below hb).ars
    refine (clone_areas P.ar P.aa P.ac W hA.le hA.nl hA.rd (by omega)).mono ?_
    rintro e w1 ⟨u,rfl,ho,hb1⟩
    exact ⟨u,rfl,hb1,ho.mono hb.size⟩
   ·refine askedC_not rfl ?_
    intro ρ y W hw hn hb hd
    have E5:ρ (.tmp 5) = .pointer (some ⟨wr.heap.size,0,none⟩):=(hn (.tmp 5) rfl).trans rfl
    refine asked_val (.pointer (some ⟨wr.heap.size,2,none⟩)) (want_free rfl) (by simp [execOp,go_sem,E5]) rfl
   ·refine askedC_not rfl ?_
    intro ρ y W hw hn hb hd
    have E43:=hw 43 6 rfl
    have h6:y 6 = .pointer (some ⟨wr.heap.size,2,none⟩):=hd 6 rfl
    refine asked_val (.agg (tsC P.ts)) (want_free rfl) (run_load_rd rfl (E43.trans h6) (blk_part (fx.ext hb) 2 8) Try.underlying63 tab_agg tab_size) rfl
   ·refine askedC_not rfl ?_
    intro ρ y W hw hn hb hd
    have E44:=hw 44 7 rfl
    have h7:y 7 = .agg (tsC P.ts):=hd 7 rfl
    have EF:∀ f,ρ (.func f) = .func (.func f) #[] #[]:=fun f=>hn (.func f) trivial
    refine asked_call _ _ (want_free rfl) (run_call rfl (EF _) Try.func60 (by kernel_rfl) (by kernel_rfl) (by simp only [List.map_toArray,List.map_cons,List.map_nil,E44,h7,EF]; rfl)) ?_
    refine (town_any P.tb (tsC P.ts) W (hg11.below hb).tb hz2).mono ?_
    rintro e w1 ⟨u,rfl,ho,hb1⟩
    exact ⟨_,rfl,hb1,u,rfl,ho.mono hb.size⟩
   ·refine askedC_not rfl ?_
    intro ρ y W hw hn hb hd
    have E39:=hw 39 2 rfl
    have h2:y 2 = .bool P.lv:=hd 2 rfl
    have E42:=hw 42 5 rfl
    have h5:((ownR w11.heap.size 69 7 P.ar.length (P.ar.flatMap arL))).r (y 5) W:=hd 5 rfl
    have E45:=hw 45 8 rfl
    have h8:((tabO w11.heap.size P.tb)).r (y 8) W:=hd 8 rfl
    obtain ⟨x5,c5,e5,_⟩:=Own.rd h5
    obtain ⟨cs8,e8,ho8⟩:=h8
    obtain ⟨v8,rfl⟩:=ts_of ho8.sz
    have hO5:Own W w11.heap.size 69 7 (.slice x5 P.ar.length c5) P.ar.length (P.ar.flatMap arL):=by rw [← e5]; exact h5
    refine asked_val (.agg (psC ⟨P.lv,x5,c5,P.ar,v8,P.tb⟩)) (want_free rfl) (by simp [execOp,go_sem,E39.trans h2,E42,e5,E45,e8,tsC,psC]) ?_
    exact ⟨⟨P.lv,x5,c5,P.ar,v8,P.tb⟩,rfl,rfl,hO5,ho8⟩
   ·refine askedC_not rfl ?_
    intro ρ y W hw hn hb hd
    have E46:=hw 46 9 rfl
    have h9:((spcR w11.heap.size P.sp)).r (y 9) W:=hd 9 rfl
    obtain ⟨p9,e9,hg9⟩:=h9
    refine asked_new (.slice (some ⟨W.heap.size,0,none⟩) 1 1) (want_free rfl) (by simp [execOp,go_sem,E46,e9,psC]) ((Below.refl _ _).alloc (Nat.le_refl _) (.cells (psC p9) 65)) ?_
    exact ⟨_,p9,rfl,RdV.new _ _ _,hg9.below ((Below.refl _ _).alloc (Nat.le_refl _) _)⟩
   intro ρ y WA o ho hw hn hV hbWA hRWA
   cases ho
   have hy0:y 0 = .slice av qs.length cv:=hRWA 0 (by decide)
   have hy1:y 1 = .pointer (some ⟨wr.heap.size,0,none⟩):=hRWA 1 (by decide)
   have hy2:y 2 = .bool P.lv:=hRWA 2 (by decide)
   have hy3:y 3 = .pointer (some ⟨wr.heap.size,1,none⟩):=hRWA 3 (by decide)
   have hy4:y 4 = .slice P.aa P.ar.length P.ac:=hRWA 4 (by decide)
   have hy5:((ownR w11.heap.size 69 7 P.ar.length (P.ar.flatMap arL))).r (y 5) WA:=hRWA 5 (by decide)
   have hy6:y 6 = .pointer (some ⟨wr.heap.size,2,none⟩):=hRWA 6 (by decide)
   have hy7:y 7 = .agg (tsC P.ts):=hRWA 7 (by decide)
   have hy8:((tabO w11.heap.size P.tb)).r (y 8) WA:=hRWA 8 (by decide)
   have hy9:((spcR w11.heap.size P.sp)).r (y 9) WA:=hRWA 9 (by decide)
   have hy10:((spcS w11.heap.size P.sp)).r (y 10) WA:=hRWA 10 (by decide)
   have E37:=hw 37 0 rfl
   rw [hy0] at E37
   have E47:=hw 47 10 rfl
   have EC:∀ v,ρ (.const v) = v:=fun v=>hn (.const v) trivial
   have EF:∀ f,ρ (.func f) = .func (.func f) #[] #[]:=fun f=>hn (.func f) trivial
   obtain ⟨g10,p10,e10,hrd10,hg10⟩:=hy10
   refine giv_app (want_free rfl) (run_app (.tmp 37) (.tmp 47) 38 rfl w.heap.size 65 _ 10 224 Try.underlying38 space_info rfl (by decide) _ _ _ E37 (hO.below hbWA) _ 1 1 (psL p10) (E47.trans e10) (fun e=>by cases e) (Nat.le_refl _) rfl hrd10 (psC_oneS hg10) (by unfold maxLen; omega) (by omega) (Nat.le_trans hgw.out hbWA.size)) ?_
   rintro v2 w13 ⟨hown13,hgr13,hcase13⟩
   clear hRWA hw hn hV
   simp only [lay,Nat.reduceAdd,Nat.reduceLT,Nat.reduceEqDiff,reduceIte,decide_true,decide_false,if_true,Bool.false_eq_true,if_false,List.setIfInBounds_toArray,List.set_cons_zero,List.set_cons_succ,List.drop_succ_cons,List.drop_zero,List.drop_nil,hy0,hy1,hy2,hy3,hy4,hy6,hy7]
   clear hy0 hy1 hy2 hy3 hy4 hy6 hy7
   have hOA:=hO.below hbWA
   have hbrA:=below_next hbr11 hbWA
   have hbr13:Below w.heap.size w w13:=hbrA.grown hgr13 hbrA.size (fun k hk=>hOA.ge k hk)
   have hown13' : Own w13 w.heap.size 65 10 v2 (qs ++ [p10]).length ((qs ++ [p10]).flatMap psL):=by
    rw [List.length_append,List.flatMap_append]; simpa using hown13
   obtain ⟨a13,c13,rfl,_⟩:=hown13'.rd
   have r1:=grow_own hOA hgr13 (q1.below hbWA) (by decide)
   have r2:=grow_own hOA hgr13 (q2.below hbWA) (by decide)
   have r3:DOwn w13 w.heap.size _ _ H.sw:=⟨grow_own hOA hgr13 (q3.below hbWA).b (by decide),grow_own hOA hgr13 (q3.below hbWA).q (by decide)⟩
   have r4:DOwn w13 w.heap.size _ _ H.dk:=⟨grow_own hOA hgr13 (q4.below hbWA).b (by decide),grow_own hOA hgr13 (q4.below hbWA).q (by decide)⟩
   have r5:=grow_fs hOA hgr13 (q5.below hbWA)
   have r6:=grow_own hOA hgr13 (q6.below hbWA) (by decide)
   have bx13:=grow_blk hOA hgr13 (bx11.ext hbWA) (by decide)
   have rx13:=grow_blk hOA hgr13 (rx11.ext hbWA) (by decide)
   have hps13:∀ p ∈ qs ++ [p10],spGood w13 w.heap.size p p.sp ∧ TbSz p.tb:=fun p hp=>by
    rcases List.mem_append.1 hp with hp | hp
    ·have h1:=(hps11 p hp).1.below hbWA
     exact ⟨⟨rfl,grow_own hOA hgr13 h1.2.1 (by decide),grow_tb hOA hgr13 h1.2.2⟩,(hps11 p hp).2⟩
    ·rw [List.mem_singleton.1 hp]
     refine ⟨⟨rfl,(grow_own hOA hgr13 hg10.2.1 (by decide)).mono hgw.out,(grow_tb hOA hgr13 hg10.2.2).mono hgw.out⟩,?_⟩
     have e:p10.tb = P.tb:=congrArg Sp.tb hg10.1
     rw [e]; exact hz2
   have hqs3:Hid ((qs ++ [p10]).map PS.sp = (H.sp.take (q + 1)).map PS.sp):=Lib.hid (by rw [List.map_append,← hqs2.out,← hg10.1]; rfl)
   clear hO hOA hbrA hbWA hown13 hgr13 hcase13 hg10 hrd10 fx hg11 bx11 rx11 q1 q2 q3 q4 q5 q6 hps11
   go_wp2
   go_roundw
   case rel=>exact ⟨q + 1,_,_,_,by omega,by go_num,rfl,hbr13,bx13,rx13,r1,r2,r3,r4,r5,r6,hown13',hps13,hqs3⟩
   case measure=>simp [intOf]; omega
  ·have hqi:¬ (q:Int) < (H.sp.length:Int):=by omega
   rw [List.take_of_length_le (by omega)] at hqs
   go_wp2_with (refine wpList_stv rfl _ _ _ rfl w.heap.size 10 _ [.slice av qs.length cv] rfl rfl rfl _ _ bx (by show 10 + 1 ≤ 11; decide) slsp_size (fun u hu=>by cases List.mem_singleton.1 hu; rfl) ?_)
   intro w11 bx11 hg11
   have hbr11:=hbr.grown hg11 hbr.size (fun k hk=>by cases hk; exact Nat.le_refl _)
   have rx11:=rx.grown hg11 (fun e=>by have:=Option.some.inj e; omega)
   obtain ⟨K,hK⟩:∃ K:MH,Hid (K = { G with ap:=av,cp:=cv,sp:=qs }):=⟨_,Lib.hid rfl⟩
   have bxK:Blk w11 w.heap.size (mhC K) 40:=by rw [hK.out]; exact bx11
   have hown:MaO w11 w.heap.size K:=by
    rw [hK.out,hG.out]
    exact ⟨own_keep p1 bx (by decide) hg11,own_keep p2 bx (by decide) hg11,p3.keep bx (by decide) (by decide) hg11,p4.keep bx (by decide) (by decide) hg11,p5.keep bx (by decide) (by decide) hg11,own_keep p6 bx (by decide) hg11,own_keep ho bx (by decide) hg11,fun p hp=>⟨own_keep (hps p hp).1.2.1 bx (by decide) hg11,(hps p hp).1.2.2.keep bx (by decide) hg11⟩,hks⟩
   have hma:K.ma = H.ma:=by
    rw [hK.out,hG.out]
    unfold MH.ma
    simp only
    rw [hqs.out,hst]
   have hsz:∀ p ∈ K.fi,∀ x,oB p.a = some x → oB K.asl ≠ some x:=by rw [hK.out,hG.out]; exact hn2.out
   clear hbr bx rx hg11 bx11 p1 p2 p3 p4 p5 p6 ho
   go_wp2_with (first | (refine wpList_ldg _ _ rfl w.heap.size 0 rfl rfl (mhC K).toList bxK.rd _ Try.underlying40 rfl mach_size ?_) | (refine wpList_stw rfl _ _ _ rfl (w.heap.size + 1) (mhC K) rfl rfl _ _ rx11 rfl mach_size (mhC_one K) ?_))
   intro w12 rx12 hg12
   have hbr12:=hbr11.grown hg12 hbr11.size (fun k hk=>by cases hk; omega)
   go_wp2
   refine bodyPost_ret (v:=.agg (mhC K)) (results_c Try.results13 _ _ (w.heap.size + 1) _ _ _ rfl rx12 Try.underlying40 rfl mach_size) rfl ?_
   exact ⟨K,rfl,hown.keep rx11 (by decide) hg12,hma,hsz,hbr12⟩
def tL (t:List En):List Value:=(List.range 64).flatMap fun i=>enL (t.getD i zEn)
theorem tL_len (t:List En):(tL t).length = 192:=by
 unfold tL
 rw [Pw.flat_len (fun i=>enL (t.getD i zEn)) 3 (fun _=>enL_len _),List.length_range]
structure MW where
 al:Option Addr
 cl:Nat
 l:List UInt8
 H:MH
 ab:Option Addr
 cb:Nat
 T:List (List En)
def mkC (S:MW):Array Value:=#[.slice S.al S.l.length S.cl,.slice S.H.af S.H.m.fs.length S.H.cf,.int .i64 S.H.m.hand,.slice S.H.asl S.H.sl.length S.H.csl,.slice S.H.wb S.H.sw.blocks.length S.H.cwb,.slice S.H.wq S.H.sw.queue.length S.H.cwq,
 .slice S.H.db S.H.dk.blocks.length S.H.cdb,.slice S.H.dq S.H.dk.queue.length S.H.cdq,.slice S.H.ai S.H.fi.length S.H.ci,.int .i64 S.H.ct,.slice S.H.ac S.H.ca.length S.H.cc,.slice S.H.ap S.H.sp.length S.H.cp,.slice S.ab S.T.length S.cb]
def klM (S:MW):List (Option Nat):=[oB S.H.af,oB S.H.asl,oB S.H.wb,oB S.H.db,oB S.H.dq,oB S.H.ai,oB S.H.ac,oB S.H.ap,oB S.ab]
def kbM (b:Nat) (S:MW) (x:Nat):Prop:=x = b ∨ some x ∈ klM S
structure MkO (w:World) (B b:Nat) (S:MW):Prop where
 blk:Blk w b (mkC S) 89
 ge:B ≤ b
 ma:MaO w B S.H
 tt:Own w B 95 192 (.slice S.ab S.T.length S.cb) S.T.length (S.T.flatMap tL)
 rd:SlR w S.al S.cl S.l.length (S.l.map byV)
 ra:∀ a,S.al = some a → S.l.map byV ≠ [] → a.block < B
 n1:∀ x,oB S.H.wb = some x → oB S.H.db ≠ some x
 n2:∀ p ∈ S.H.fi,∀ x,oB p.a = some x → oB S.H.asl ≠ some x
 n3:S.H.wq = none
structure MS (w0:World) (b:Nat) (S0:MW) (w:World) (S:MW):Prop where
 os:w.os = w0.os
 tape:w.tape = w0.tape
 output:w.output = w0.output
 size:w0.heap.size ≤ w.heap.size
 keep:∀ x,x < w0.heap.size → ¬ kbM b S0 x → w.heap[x]? = w0.heap[x]?
 sn:∀ x,kbM b S x → kbM b S0 x ∨ w0.heap.size ≤ x
theorem MS.refl (w:World) (b:Nat) (S:MW):MS w b S w S:=⟨rfl,rfl,rfl,Nat.le_refl _,fun _ _ _=>rfl,fun _ h => .inl h⟩
theorem MS.trans {w0 w1 w2:World} {b:Nat} {H0 H1 H2:MW} (h:MS w0 b H0 w1 H1) (k:MS w1 b H1 w2 H2):MS w0 b H0 w2 H2:=
 ⟨k.os.trans h.os,k.tape.trans h.tape,k.output.trans h.output,Nat.le_trans h.size k.size,fun x hx hn=>(k.keep x (Nat.lt_of_lt_of_le hx h.size) (fun hk=>(h.sn x hk).elim hn (fun hh=>absurd hx (Nat.not_lt.2 hh)))).trans (h.keep x hx hn),
  fun x hx=>(k.sn x hx).elim (h.sn x) (fun hh => .inr (Nat.le_trans h.size hh))⟩
theorem MS.below {w0 w w' : World} {b:Nat} {H0 H:MW} (h:MS w0 b H0 w H) (hb:Below w.heap.size w w'):MS w0 b H0 w' H:=
 ⟨hb.os.trans h.os,hb.tape.trans h.tape,hb.output.trans h.output,Nat.le_trans h.size hb.size,fun x hx hn=>(hb.block x (Nat.lt_of_lt_of_le hx h.size)).trans (h.keep x hx hn),h.sn⟩
theorem MS.put {w0 w w' : World} {b y:Nat} {H0 H H' : MW} (h:MS w0 b H0 w H) (hg:w.grownBy w' (some y)) (hy:kbM b H y) (hn:∀ x,kbM b H' x → kbM b H x ∨ w0.heap.size ≤ x):MS w0 b H0 w' H':=
 ⟨hg.os.trans h.os,hg.tape.trans h.tape,hg.output.trans h.output,Nat.le_trans h.size hg.size,fun x hx hnx=>(hg.block x (Nat.lt_of_lt_of_le hx h.size) (fun e=>by
  have e' : x = y:=Option.some.inj e
  rw [← e'] at hy
  exact (h.sn x hy).elim hnx (fun hh=>absurd hx (Nat.not_lt.2 hh)))).trans (h.keep x hx hnx),fun x hx=>(hn x hx).elim (h.sn x) .inr⟩
theorem MS.loc {w0 w w' : World} {b y:Nat} {H0 H:MW} (h:MS w0 b H0 w H) (hg:w.grownBy w' (some y)) (hy:w0.heap.size ≤ y):MS w0 b H0 w' H:=
 ⟨hg.os.trans h.os,hg.tape.trans h.tape,hg.output.trans h.output,Nat.le_trans h.size hg.size,fun x hx hnx=>(hg.block x (Nat.lt_of_lt_of_le hx h.size) (fun e=>by
  have e' : x = y:=Option.some.inj e
  omega)).trans (h.keep x hx hnx),h.sn⟩
theorem MS.same {w0 w:World} {b:Nat} {H0 H H' : MW} (h:MS w0 b H0 w H) (he:klM H' = klM H):MS w0 b H0 w H':=
 { h with sn:=fun x hx=>h.sn x (by unfold kbM at hx ⊢; rw [← he]; exact hx) }
theorem MkO.lt {w:World} {B b:Nat} {S:MW} (h:MkO w B b S):b < w.heap.size:=h.blk.lt
theorem MkO.bs {w:World} {B b:Nat} {S:MW} (h:MkO w B b S):B ≤ w.heap.size:=Nat.le_trans h.ge (Nat.le_of_lt h.lt)
theorem MkO.below {w w' : World} {B b:Nat} {S:MW} (h:MkO w B b S) (hb:Below w.heap.size w w'):MkO w' B b S:=⟨h.blk.ext hb,h.ge,h.ma.below hb,h.tt.below hb,h.rd.below hb,h.ra,h.n1,h.n2,h.n3⟩
theorem MkO.kb_own {w:World} {B b:Nat} {S:MW} (h:MkO w B b S) {x:Nat} (hx:kbM b S x):B ≤ x ∧ x < w.heap.size:=by
 have own:∀ {e:TypeId} {sz n c:Nat} {a:Option Addr} {xs:List Value},Own w B e sz (.slice a n c) n xs → oB a = some x → B ≤ x ∧ x < w.heap.size:=fun ho hx=>by
  obtain ⟨h1,cs,h2⟩:=own_oB ho hx
  exact ⟨h1,h2.lt⟩
 rcases hx with hx | hx
 ·rw [hx]; exact ⟨h.ge,h.lt⟩
 ·simp only [klM,List.mem_cons,List.not_mem_nil,or_false] at hx
  rcases hx with hx | hx | hx | hx | hx | hx | hx | hx | hx
  ·exact own h.ma.fr hx.symm
  ·exact own h.ma.sl hx.symm
  ·exact own h.ma.sw.b hx.symm
  ·exact own h.ma.dk.b hx.symm
  ·exact own h.ma.dk.q hx.symm
  ·exact own h.ma.st.own hx.symm
  ·exact own h.ma.ca hx.symm
  ·exact own h.ma.sp hx.symm
  ·exact own h.tt hx.symm
theorem MS.to {w0 w:World} {B B0 b:Nat} {S0 S:MW} (h:MkO w0 B b S0) (hs:MS w0 b S0 w S) (hB:B0 ≤ B):Below B0 w0 w:=
 ⟨hs.os,hs.tape,hs.output,hs.size,fun x hx=>hs.keep x (by have:=h.bs; omega) (fun hk=>by have:=(h.kb_own hk).1; omega)⟩
theorem MS.blkN {w0 w:World} {b x:Nat} {S0 S:MW} {cs:Array Value} {T:TypeId} (hs:MS w0 b S0 w S) (hk:Blk w0 x cs T) (hx:¬ kbM b S0 x):Blk w x cs T:=(hs.keep x hk.lt hx).trans hk
theorem MS.not {w0 w:World} {b x:Nat} {S0 S:MW} (hs:MS w0 b S0 w S) (hl:x < w0.heap.size) (hx:¬ kbM b S0 x):¬ kbM b S x:=fun h=>(hs.sn x h).elim hx (fun h=>by omega)
theorem MS.ownN {w0 w:World} {b B' : Nat} {S0 S:MW} {t:TypeId} {sz n:Nat} {v:Value} {xs:List Value} (hs:MS w0 b S0 w S) (ho:Own w0 B' t sz v n xs) (hx:∀ x,v.ownBlock = some x → ¬ kbM b S0 x):Own w B' t sz v n xs:=
 ⟨ho.1,ho.2.imp id fun ⟨g,off,cap,cur,hv,hB,hk,r⟩=>⟨g,off,cap,cur,hv,hB,hs.blkN hk (hx g (by rw [hv]; rfl)),r⟩⟩
theorem MkO.new {w:World} {B b:Nat} {S:MW} (h:MkO w B b S) {x:Nat} (hx:w.heap.size ≤ x):¬ kbM b S x:=fun hk=>by have:=(h.kb_own hk).2; omega
theorem SlR.keep {w w' : World} {B:Nat} {a:Option Addr} {c n:Nat} {vs:List Value} (h:SlR w a c n vs) (ha:∀ x,a = some x → vs ≠ [] → x.block < B) (hB:B ≤ w.heap.size) {g:Nat} (hg:w.grownBy w' (some g)) (hgB:B ≤ g):SlR w' a c n vs:=
 ⟨h.le,h.mx,h.nl,fun i u hi=>by
  obtain ⟨b',o',e,hc⟩:=h.rd i u hi
  have hl:b' < B:=ha _ e (fun e0=>by rw [e0] at hi; cases hi)
  exact ⟨b',o',e,hg.cell hc (fun e=>by have h3:b' = g:=Option.some.inj e; omega)⟩⟩
theorem MkO.putL {w w' : World} {B b:Nat} {S:MW} (h:MkO w B b S) {a:Option Addr} {c:Nat} {l:List UInt8} (hr:SlR w a c l.length (l.map byV)) (ha:∀ x,a = some x → l.map byV ≠ [] → x.block < B) (hb:Blk w' b (putAt (mkC S) 0 [.slice a l.length c]) 89) (hg:w.grownBy w' (some b)) :
  MkO w' B b { S with al:=a,cl:=c,l:=l }:=
 ⟨hb,h.ge,h.ma.keep h.blk (by decide) hg,own_keep h.tt h.blk (by decide) hg,hr.keep ha h.bs hg h.ge,ha,h.n1,h.n2,h.n3⟩
theorem MaO.putF {w w' : World} {B:Nat} {H:MH} (h:MaO w B H) {g:Nat} {cs:Array Value} (hk:Blk w g cs 59) (hg:w.grownBy w' (some g)) {m:Mem} (ho:Own w' B 59 13 (.slice H.af m.fs.length H.cf) m.fs.length (m.fs.flatMap frL)):MaO w' B { H with m:=m }:=
 ⟨ho,own_keep h.sl hk (by decide) hg,h.sw.keep hk (by decide) (by decide) hg,h.dk.keep hk (by decide) (by decide) hg,h.st.keep hk (by decide) (by decide) hg,own_keep h.ca hk (by decide) hg,own_keep h.sp hk (by decide) hg,fun p hp=>⟨own_keep (h.ps p hp).1 hk (by decide) hg,(h.ps p hp).2.keep hk (by decide) hg⟩,h.c64⟩
theorem MkO.putF {w w' : World} {B b:Nat} {S:MW} (h:MkO w B b S) {g:Nat} {cs:Array Value} (hk:Blk w g cs 59) (hgB:B ≤ g) (hg:w.grownBy w' (some g)) {fs:List Fr} (hl:fs.length = S.H.m.fs.length) (ho:Own w' B 59 13 (.slice S.H.af fs.length S.H.cf) fs.length (fs.flatMap frL)) :
  MkO w' B b { S with H:={ S.H with m:=⟨fs,S.H.m.hand⟩ } }:=
 ⟨by
  have h1:=blk_keep h.blk hk (by decide) hg
  have e:mkC { S with H:={ S.H with m:=⟨fs,S.H.m.hand⟩ } } = mkC S:=by unfold mkC; rw [show ({ S.H with m:=⟨fs,S.H.m.hand⟩ }:MH).m.fs.length = S.H.m.fs.length from hl]
  rw [e]; exact h1,h.ge,h.ma.putF hk hg (m:=⟨fs,S.H.m.hand⟩) ho,own_keep h.tt hk (by decide) hg,h.rd.keep h.ra h.bs hg hgB,h.ra,h.n1,h.n2,h.n3⟩
theorem tL_at (t:List En) (i r:Nat) (hi:i < 64) (hr:r < 3):(tL t)[i * 3 + r]? = (enL (t.getD i zEn))[r]?:=by
 unfold tL
 rw [flat_cell (fun i=>enL (t.getD i zEn)) 3 (fun _=>enL_len _) (List.range 64) i (by rw [List.length_range]; exact hi) r hr,List.getElem_range]
theorem tL_set {t:List En} {n:Nat} {x:En} (hl:t.length = 64) (hn:n < 64) (cur:Array Value) (o:Nat) (hs:o + 192 ≤ cur.size) (hc:∀ j u,(tL t)[j]? = some u → cur[o + j]? = some u) :
  putAt cur (o + n * 3) (enL x) = putAt cur o (tL (t.set n x)):=by
 have hset:∀ i,i < 64 → (t.set n x).getD i zEn = if i = n then x else t.getD i zEn:=fun i hi=>by
  rw [List.getD_eq_getElem?_getD,List.getElem?_set]
  by_cases e:i = n
  ·subst e; rw [if_pos rfl,if_pos (by omega),if_pos rfl]; rfl
  ·rw [if_neg (fun h=>e h.symm),if_neg e,List.getD_eq_getElem?_getD]
 apply Array.ext_getElem?
 intro m
 have hl3:(enL x).length = 3:=enL_len x
 have hl192:=tL_len (t.set n x)
 by_cases h1:o ≤ m ∧ m < o + 192
 ·obtain ⟨d,rfl⟩:∃ d,m = o + d:=⟨m - o,by omega⟩
  have hd:d < 192:=by omega
  obtain ⟨i,r,hi,hr,rfl⟩:∃ i r,i < 64 ∧ r < 3 ∧ d = i * 3 + r:=⟨d / 3,d % 3,by omega,by omega,by omega⟩
  obtain ⟨u,hu⟩:∃ u,(tL (t.set n x))[i * 3 + r]? = some u:=⟨_,List.getElem?_eq_getElem (by omega)⟩
  rw [putAt_in _ _ _ _ u (by rw [hl192]; exact hs) hu]
  rw [tL_at _ i r hi hr,hset i hi] at hu
  by_cases e:i = n
  ·subst e
   rw [if_pos rfl] at hu
   rw [← Nat.add_assoc]
   exact putAt_in _ _ _ _ u (by omega) hu
  ·rw [if_neg e] at hu
   rw [putAt_out _ _ _ _ (by omega)]
   exact hc _ _ (by rw [tL_at _ i r hi hr]; exact hu)
 ·rw [putAt_out _ _ _ _ (by omega),putAt_out _ _ _ _ (by omega)]
theorem MkO.lst_len {S:MW} {p:Nat} (hp:p < S.T.length):lstT S.T p = S.T[p]:=by
 unfold lstT
 rw [List.getD_eq_getElem?_getD,List.getElem?_eq_getElem hp]; rfl
theorem MkO.ent {w:World} {B b:Nat} {S:MW} (h:MkO w B b S) {p n:Nat} (hp:p < S.T.length) (hn:n < 64) (h64:(lstT S.T p).length = 64) :
  ∃ g off cur,S.ab = some ⟨g,off,none⟩ ∧ B ≤ g ∧ Blk w g cur 95 ∧ off + p * 192 + n * 3 + 3 ≤ cur.size ∧ (∀ j u,(enL (entT S.T p n))[j]? = some u → w.cell? ⟨g,off + p * 192 + n * 3 + j,none⟩ = some u) ∧
   ∀ w' x,Blk w' g (putAt cur (off + p * 192 + n * 3) (enL x)) 95 → w.grownBy w' (some g) → MkO w' B b { S with T:=setL S.T p n x }:=by
 obtain ⟨g,off,cap,cur,hv,hB,hg,hs,hc,hw⟩:=h.tt.put tL_len (by decide) p hp
 simp only [Value.slice.injEq] at hv
 obtain ⟨hv,_,_⟩:=hv
 refine ⟨g,off,cur,hv,hB,hg,by omega,fun j u hj => ?_,fun w' x hw' hgr => ?_⟩
 ·have hj3:j < 3:=by
   rcases Nat.lt_or_ge j 3 with h | h
   ·exact h
   ·rw [List.getElem?_eq_none (by rw [enL_len]; exact h)] at hj; cases hj
  have:=hc (n * 3 + j) u (by rw [tL_at _ n j hn hj3,← MkO.lst_len hp]; exact hj)
  rw [← this]
  congr 2
  omega
 ·have hcur:∀ j u,(tL (lstT S.T p))[j]? = some u → cur[off + p * 192 + j]? = some u:=fun j u hj=>by
   rw [MkO.lst_len hp] at hj
   have:=hc j u hj
   rw [hg.cell] at this
   exact this
  rw [tL_set h64 hn cur _ (by omega) hcur] at hw'
  have ho:=hw w' _ hw'
  have hlen:({ S with T:=setL S.T p n x }:MW).T.length = S.T.length:=by show (setL S.T p n x).length = _; unfold setL; rw [List.length_set]
  refine ⟨?_,h.ge,h.ma.keep hg (by decide) hgr,?_,h.rd.keep h.ra h.bs hgr hB,h.ra,h.n1,h.n2,h.n3⟩
  ·have e:mkC { S with T:=setL S.T p n x } = mkC S:=by unfold mkC; rw [hlen]
   rw [e]
   exact blk_keep h.blk hg (by decide) hgr
  ·rw [hlen]; exact ho
theorem MkO.putS {w w' : World} {B b : Nat} {S : MW} (h : MkO w B b S) {g : Nat} {cs : Array Value} (hk : Blk w g cs 3) (hgB : B ≤ g) (hga : oB S.H.asl = some g) (hg : w.grownBy w' (some g)) {sl : List Int} (hl : sl.length = S.H.sl.length) (ho : Own w' B 3 1 (.slice S.H.asl sl.length S.H.csl) sl.length (sl.map inV)) :
    MkO w' B b { S with H := { S.H with sl := sl } } :=
  ⟨by
    have h1 := blk_keep h.blk hk (by decide) hg
    have e : mkC { S with H := { S.H with sl := sl } } = mkC S := by unfold mkC; rw [show ({ S.H with sl := sl } : MH).sl.length = S.H.sl.length from hl]
    rw [e]; exact h1, h.ge,
   ⟨own_keep h.ma.fr hk (by decide) hg, ho, h.ma.sw.keep hk (by decide) (by decide) hg, h.ma.dk.keep hk (by decide) (by decide) hg, ⟨own_keep h.ma.st.own hk (by decide) hg, fun i p hp => (h.ma.st.each i p hp).grown hg (fun g' hg' e => by
      cases e
      unfold pfV at hg'
      rw [oB_eq] at hg'
      exact h.n2 p (List.mem_of_getElem? hp) _ hg' hga), h.ma.st.apart⟩, own_keep h.ma.ca hk (by decide) hg, own_keep h.ma.sp hk (by decide) hg, fun p hp => ⟨own_keep (h.ma.ps p hp).1 hk (by decide) hg, (h.ma.ps p hp).2.keep hk (by decide) hg⟩, h.ma.c64⟩,
   own_keep h.tt hk (by decide) hg, h.rd.keep h.ra h.bs hg hgB, h.ra, h.n1, h.n2, h.n3⟩
theorem MkO.putW {w w' : World} {B b : Nat} {S : MW} (h : MkO w B b S) {g : Nat} {cs : Array Value} (hk : Blk w g cs 50) (hgB : B ≤ g) (hga : oB S.H.wb = some g) (hg : w.grownBy w' (some g)) {l : List Page} (hl : l.length = S.H.sw.blocks.length) (ho : Own w' B 50 8 (.slice S.H.wb l.length S.H.cwb) l.length (l.flatMap pgL)) :
    MkO w' B b { S with H := { S.H with sw := ⟨l, S.H.sw.queue⟩ } } :=
  ⟨by
    have h1 := blk_keep h.blk hk (by decide) hg
    have e : mkC { S with H := { S.H with sw := ⟨l, S.H.sw.queue⟩ } } = mkC S := by unfold mkC; rw [show ({ S.H with sw := ⟨l, S.H.sw.queue⟩ } : MH).sw.blocks.length = S.H.sw.blocks.length from hl]
    rw [e]; exact h1, h.ge,
   ⟨own_keep h.ma.fr hk (by decide) hg, own_keep h.ma.sl hk (by decide) hg, ⟨ho, own_keep h.ma.sw.q hk (by decide) hg⟩, ⟨h.ma.dk.b.grown hg (fun g' hg' e => by
      cases e
      rw [oB_eq] at hg'
      exact h.n1 _ hga hg'), own_keep h.ma.dk.q hk (by decide) hg⟩, h.ma.st.keep hk (by decide) (by decide) hg, own_keep h.ma.ca hk (by decide) hg, own_keep h.ma.sp hk (by decide) hg, fun p hp => ⟨own_keep (h.ma.ps p hp).1 hk (by decide) hg, (h.ma.ps p hp).2.keep hk (by decide) hg⟩, h.ma.c64⟩,
   own_keep h.tt hk (by decide) hg, h.rd.keep h.ra h.bs hg hgB, h.ra, h.n1, h.n2, h.n3⟩
theorem MkO.setC {w w' : World} {B b:Nat} {S:MW} (h:MkO w B b S) {a:Option Addr} {c:Nat} {l:List Cc} (ho:Own w B 85 3 (.slice a l.length c) l.length (l.flatMap ccL)) (hb:Blk w' b (putAt (mkC S) 10 [.slice a l.length c]) 89) (hg:w.grownBy w' (some b)) :
  MkO w' B b { S with H:={ S.H with ac:=a,cc:=c,ca:=l } }:=
 ⟨hb,h.ge,{ h.ma.keep h.blk (by decide) hg with ca:=own_keep ho h.blk (by decide) hg },own_keep h.tt h.blk (by decide) hg,h.rd.keep h.ra h.bs hg h.ge,h.ra,h.n1,h.n2,h.n3⟩
def MW.lst (S:MW) (a:Option Addr) (c:Nat) (l:List UInt8):MW:={ S with al:=a,cl:=c,l:=l }
theorem lst_two (S:MW) (a a' : Option Addr) (c c' : Nat) (l l' : List UInt8):(S.lst a c l).lst a' c' l' = S.lst a' c' l':=rfl
theorem byte_elem {w:World} {a:Option Addr} {x:UInt8} {l:List UInt8} (h:RdV w a ((x :: l).map byV)):∃ b o,a = some ⟨b,o,none⟩ ∧ w.cell? ⟨b,o,none⟩ = some (byV x) ∧ RdV w (some ⟨b,o + 1,none⟩) (l.map byV):=by
 obtain ⟨b,o,rfl,hc⟩:=h.at (by simp)
 exact ⟨b,o,rfl,hc 0 _ rfl,fun i u hi=>⟨b,o + 1,rfl,by
  have:=hc (i + 1) u (by simpa using hi)
  rw [show o + 1 + i = o + (i + 1) by omega]; exact this⟩⟩
theorem MkO.locT {w w' : World} {B b:Nat} {S:MW} (h:MkO w B b S) {g:Nat} {cs:Array Value} {T:TypeId} (hk:Blk w g cs T) (hT:T ≠ 3 ∧ T ≠ 69 ∧ T ≠ 67) (hn:¬ kbM b S g) (hgB:B ≤ g) (hg:w.grownBy w' (some g)):MkO w' B b S:=by
 have hne:∀ {a:Option Addr},oB a ∈ klM S → ∀ n c g',(Value.slice a n c).ownBlock = some g' → some g ≠ some g':=fun hm n c g' he e=>by
  cases e
  rw [oB_eq] at he
  exact hn (.inr (by rw [← he]; exact hm))
 have m:∀ {x:Option Nat} {l:List (Option Nat)},x ∈ x :: l:=List.mem_cons_self
 refine ⟨h.blk.grown hg (fun e=>hn (.inl (Option.some.inj e))),h.ge,⟨h.ma.fr.grown hg (hne (by simp [klM]) _ _),h.ma.sl.grown hg (hne (by simp [klM]) _ _),⟨h.ma.sw.b.grown hg (hne (by simp [klM]) _ _),h.ma.sw.q.grown hg (fun g' he=>by rw [h.n3] at he; cases he)⟩,⟨h.ma.dk.b.grown hg (hne (by simp [klM]) _ _),h.ma.dk.q.grown hg (hne (by simp [klM]) _ _)⟩,
  ⟨h.ma.st.own.grown hg (hne (by simp [klM]) _ _),fun i p hp=>own_keep (h.ma.st.each i p hp) hk hT.1 hg,h.ma.st.apart⟩,h.ma.ca.grown hg (hne (by simp [klM]) _ _),h.ma.sp.grown hg (hne (by simp [klM]) _ _),fun p hp=>⟨own_keep (h.ma.ps p hp).1 hk hT.2.1 hg,(h.ma.ps p hp).2.keep hk hT.2.2 hg⟩,h.ma.c64⟩,
  h.tt.grown hg (hne (by simp [klM]) _ _),h.rd.keep h.ra h.bs hg hgB,h.ra,h.n1,h.n2,h.n3⟩
def PickR (S:MW) (n:Int) (B b:Nat) (w:World) (r:Ending) (w' : World):Prop:=∃ x a c l,r = .returned (.int .i64 x) ∧ MkO w' B b (S.lst a c l) ∧ MS w b S w' (S.lst a c l) ∧ (0 ≤ x ∧ x < 256 ∧ (x < n ∨ x = 0)) ∧ (S.l = [] → x = 0 ∧ l = [])
theorem rpick_any (S:MW) (n:Int) (B b:Nat) (w:World) (h:MkO w B b S) (hn : -9223372036854775808 ≤ n ∧ n ≤ 9223372036854775807) :
  Calls Try.prog 28 #[.pointer (some ⟨b,0,none⟩),.int .i64 n] w (PickR S n B b w):=by
 obtain ⟨al,cl,l,H,ab,cb,T⟩:=S
 have hr:SlR w al cl l.length (l.map byV):=h.rd
 have hra:∀ a,al = some a → l.map byV ≠ [] → a.block < B:=h.ra
 have hc:=h.blk.cell
 unfold mkC at hc
 dsimp only at hc
 have h':=Lib.hid h
 have hra':=Lib.hid hra
 go_enter Try.func28,Try.ntmps28
 cases l with
 | nil=>
  clear h hr hra
  go_wp2
  go_ret
  exact ⟨0,al,cl,[],rfl,h'.out,MS.refl _ _ _,by omega,fun _=>⟨rfl,rfl⟩⟩
 | cons x l=>
  obtain ⟨bl,ol,rfl,hcb,hrd⟩:=byte_elem hr.rd
  have hrl:l.length + 1 ≤ cl:=by have:=hr.le; simpa using this
  have hrm:=Lib.hid hr.mx
  have hrd':=Lib.hid hrd
  have hblk:=h.blk
  clear h hr hra hrd
  unfold byV at hcb
  by_cases hn1:n < 1
  ·go_wp2
   go_ret
   exact ⟨0,_,cl,x :: l,rfl,h'.out,MS.refl _ _ _,by omega,fun e=>(by cases e)⟩
  ·have hl1:(1:Int) ≤ ((l.length + 1:Nat):Int):=by omega
   have h1:=Lib.hid x.toNat_lt
   have hx0:Hid ((0:Int) ≤ (x.toNat:Int) % n ∧ (x.toNat:Int) % n < 256 ∧ ((x.toNat:Int) % n < n ∨ (x.toNat:Int) % n = 0)):=Lib.hid (by
    have h3:=Int.emod_nonneg (x.toNat:Int) (show n ≠ 0 by omega)
    have h4:=Int.emod_lt_of_pos (x.toNat:Int) (show (0:Int) < n by omega)
    have h6:(x.toNat:Int) % n ≤ (x.toNat:Int):=by
     obtain ⟨N,rfl⟩:=Int.eq_ofNat_of_zero_le (show 0 ≤ n by omega)
     rw [← Int.natCast_emod]
     have:=Nat.mod_le x.toNat N
     omega
    have:=h1.out
    omega)
   have hxw:IntKind.i64.wrap (x.toNat:Int) = (x.toNat:Int):=IntWalk.i64_in _ (by have:=h1.out; omega)
   by_cases hcl:cl = 1
   ·subst hcl
    obtain rfl:l = []:=List.length_eq_zero_iff.1 (by omega)
    go_wp2_with (refine wpList_stv rfl _ _ _ rfl b 0 _ [.slice (some ⟨bl,ol,none⟩) 0 0] rfl rfl rfl _ _ hblk (by show 0 + 1 ≤ 13; omega) (by kernel_rfl) (fun u hu=>by cases List.mem_singleton.1 hu; rfl) ?_)
    intro w1 hb1 hg1
    clear hc hcb
    go_wp2
    go_ret
    have hs:SlR w (some ⟨bl,ol,none⟩) 0 0 (([]:List UInt8).map byV):=⟨Nat.le_refl _,Nat.zero_le _,fun e=>(by cases e),RdV.nil⟩
    exact ⟨_,some ⟨bl,ol,none⟩,0,[],rfl,h'.out.putL hs (fun a e _=>by cases e; exact hra'.out _ rfl (by simp)) hb1 hg1,(MS.refl w b _).put hg1 (.inl rfl) fun x hx => .inl hx,hx0.out,fun e=>(by cases e)⟩
   ·go_wp2_with (refine wpList_stv rfl _ _ _ rfl b 0 _ [.slice (some ⟨bl,ol + 1,none⟩) l.length (cl - 1)] rfl rfl rfl _ _ hblk (by show 0 + 1 ≤ 13; omega) (by kernel_rfl) (fun u hu=>by cases List.mem_singleton.1 hu; rfl) ?_)
    intro w1 hb1 hg1
    clear hc hcb
    go_wp2
    go_ret
    have hs:SlR w (some ⟨bl,ol + 1,none⟩) (cl - 1) l.length (l.map byV):=⟨by omega,by have:=hrm.out; omega,fun e=>(by cases e),hrd'.out⟩
    exact ⟨_,some ⟨bl,ol + 1,none⟩,cl - 1,l,rfl,h'.out.putL hs (fun a e _=>by cases e; exact hra'.out ⟨bl,ol,none⟩ rfl (by simp)) hb1 hg1,(MS.refl w b _).put hg1 (.inl rfl) fun x hx => .inl hx,hx0.out,fun e=>(by cases e)⟩
def PageR (S:MW) (B b:Nat) (w:World) (r:Ending) (w' : World):Prop:=∃ P a c l,r = .returned (.agg (pgC P)) ∧ MkO w' B b (S.lst a c l) ∧ MS w b S w' (S.lst a c l)
theorem rpage_any (S:MW) (B b:Nat) (w:World) (h:MkO w B b S) :
  Calls Try.prog 31 #[.pointer (some ⟨b,0,none⟩)] w (PageR S B b w):=by
 have hBs:=Lib.hid h.bs
 go_enter Try.func31,Try.ntmps31
 go_upto_region 3 with (fail)
 refine abs2 (fun W=>Code.wp _ _ _ _ W) fun w1 hb1 bx1 rx1 hs1 => ?_
 have h1:=h.below hb1
 have s1:=(MS.refl w b S).below hb1
 have hn0:=Lib.hid (h.new (Nat.le_refl _))
 have hn1:=Lib.hid (h.new (Nat.le_succ _))
 clear h
 go_loopw [5] (fun k wr => ∃ (q:Nat) (P:Page) (a:Option Addr) (c:Nat) (l:List UInt8),q ≤ 8 ∧ k = .int .i64 q ∧ MkO wr B b (S.lst a c l) ∧ MS w b S wr (S.lst a c l) ∧ Blk wr w.heap.size (pgC zPg) 50 ∧ Blk wr (w.heap.size + 1) (pgC P) 50) (fun k _=>8 - (intOf k).toNat)
 case atStart=>exact ⟨0,zPg,S.al,S.cl,S.l,Nat.zero_le _,rfl,h1,s1,bx1,rx1⟩
 case round=>
  clear h1 s1 bx1 rx1 hb1 hs1
  obtain ⟨q,P,a,c,l,hq,rfl,hm,hs,bx,rx⟩:=hrel
  have hsz:w.heap.size + 2 ≤ wr.heap.size:=rx.lt
  by_cases hq8:q < 8
  ·have hqi:(q:Int) < 8:=by omega
   go_wp2_with fail
   refine (rpick_any _ 4 B b _ hm (by omega)).mono ?_
   rintro r w2 ⟨x,a2,c2,l2,rfl,hm2,hs2,hx,_⟩
   rw [lst_two] at hm2 hs2
   have bx2:=hs2.blkN bx hn0.out
   have rx2:=hs2.blkN rx hn1.out
   have hst:=hs.trans hs2
   obtain ⟨x,rfl⟩:∃ y:UInt8,x = (y.toNat:Int):=⟨UInt8.ofNat x.toNat,by rw [UInt8.toNat_ofNat']; omega⟩
   have hx2:((x.toNat:Nat):Int) < 256:=hx.2.1
   clear hm hs bx rx hs2 hx
   go_wp2_with (refine wpList_stv rfl _ _ _ rfl (w.heap.size + 1) q _ [.int .u8 x.toNat] rfl rfl rfl _ _ rx2 (by show q + 1 ≤ 8; omega) (by kernel_rfl) (fun u hu=>by cases List.mem_singleton.1 hu; rfl) ?_)
   intro w3 rx3 hg3
   rw [putAt_one,pgC_set _ q hq8] at rx3
   have hm3:=hm2.locT rx2 (by decide) hn1.out (by have:=hBs.out; omega) hg3
   have hs3:=hst.loc hg3 (Nat.le_succ _)
   have bx3:=bx2.grown hg3 (fun e=>by have:=Option.some.inj e; omega)
   clear hm2 hst bx2 rx2 hg3
   go_wp2
   go_roundw
   case rel=>exact ⟨q + 1,_,a2,c2,l2,by omega,by go_num,hm3,hs3,bx3,rx3⟩
   case measure=>simp [intOf]; omega
  ·have hqi:¬ (q:Int) < 8:=by omega
   go_wp2_with (first | (refine wpList_ldg _ _ rfl (w.heap.size + 1) 0 rfl rfl _ rx.rd _ Try.underlying50 rfl psize ?_) | (refine wpList_stw rfl _ _ _ rfl w.heap.size (pgC P) rfl rfl _ _ bx rfl psize (pgC_one _) ?_))
   intro w3 bx3 hg3
   go_wp2
   refine bodyPost_ret (v:=.agg (pgC P)) (results_c Try.results31 _ _ w.heap.size _ _ _ rfl bx3 Try.underlying50 rfl psize) rfl ?_
   exact ⟨P,a,c,l,rfl,hm.locT bx (by decide) hn0.out (by have:=hBs.out; omega) hg3,hs.loc hg3 (Nat.le_refl _)⟩
def MW.frs (S:MW) (fs:List Fr):MW:={ S with H:={ S.H with m:=⟨fs,S.H.m.hand⟩ } }
def FrameR (S:MW) (f:Fr) (B b:Nat) (w:World) (r:Ending) (w' : World):Prop:=∃ x a c l fs,r = .returned (.int .i64 x) ∧ MkO w' B b ((S.lst a c l).frs fs) ∧ MS w b S w' ((S.lst a c l).frs fs) ∧
   ((x = -1 ∧ fs = S.H.m.fs) ∨ ∃ j:Nat,x = j ∧ j < S.H.m.fs.length ∧ (frN S.H.ma j).r = 0 ∧ fs = S.H.m.fs.set j f)
theorem rframe_any (S:MW) (f:Fr) (B b:Nat) (w:World) (h:MkO w B b S) (hz:S.H.m.fs.length ≤ 1000) :
  Calls Try.prog 108 #[.pointer (some ⟨b,0,none⟩),.agg (frC f)] w (FrameR S f B b w):=by
 go_enter Try.func108,Try.ntmps108
 go_upto_region 1 with (fail)
 refine abs1 (fun W=>Code.wp _ _ _ _ W) fun w1 hb1 bx1 hs1 => ?_
 have h1:=h.below hb1
 have s1:=(MS.refl w b S).below hb1
 have hn0:=Lib.hid (h.new (Nat.le_refl _))
 have hBs:=Lib.hid h.bs
 have hc:=h1.blk.cell
 unfold mkC at hc
 clear h hb1
 go_wp2_with fail
 refine (rpick_any _ _ B b _ h1 (by omega)).mono ?_
 rintro r w2 ⟨x,a2,c2,l2,rfl,hm2,hs2,hx,_⟩
 have bx2:=hs2.blkN bx1 hn0.out
 have hst:=s1.trans hs2
 clear h1 s1 hc hs2 bx1 hs1
 go_upto_region 4 with (fail)
 generalize hnn:S.H.m.fs.length = n at *
 go_loopw [20] (fun k wr => ∃ q:Nat,q ≤ n ∧ k = .int .i64 q ∧ wr = w2) (fun k _=>n - (intOf k).toNat)
 case atStart=>exact ⟨0,Nat.zero_le _,rfl,rfl⟩
 case round=>
  obtain ⟨q,hq,rfl,rfl⟩:=hrel
  have hc:=hm2.blk.cell
  unfold mkC at hc
  dsimp only [MW.lst] at hc
  rw [hnn] at hc
  by_cases hqn:q < n
  ·have hqi:(q:Int) < (n:Int):=by omega
   obtain ⟨X,rfl⟩:=Int.eq_ofNat_of_zero_le hx.1
   have hx1:(X:Int) < 256:=hx.2.1
   obtain ⟨j,hjn,hj⟩:∃ j:Nat,j < n ∧ ((X:Int) + (q:Int)) % (n:Int) = j:=⟨(X + q) % n,Nat.mod_lt _ (by omega),by rw [← Int.natCast_add,← Int.natCast_emod]⟩
   have hji:(j:Int) < (n:Int):=by omega
   obtain ⟨g,off,cap,cur,hv,hgB,hg,hgs,hgc,hgw⟩:=hm2.ma.fr.put frL_len (by decide) j (by show j < S.H.m.fs.length; omega)
   have haf:S.H.af = some ⟨g,off,none⟩:=(Value.slice.inj hv).1
   rw [haf] at hc
   have c8:wr.cell? ⟨g,off + j * 13 + 8,none⟩ = some (.int .i64 (S.H.m.fs[j]'(by omega)).r):=hgc 8 _ rfl
   have hfj:Hid (frN S.H.ma j = S.H.m.fs[j]'(by omega)):=Lib.hid (by
    unfold frN
    show S.H.m.fs.getD j fr0 = _
    rw [List.getD_eq_getElem?_getD,List.getElem?_eq_getElem (by omega)]; rfl)
   clear hv
   have hgw':=Lib.hid hgw
   have hgc':=Lib.hid hgc
   clear hgw hgc
   generalize S.H.m.fs[j]'(by omega) = Y at c8 hfj
   by_cases hr:Y.r = 0
   ·rw [hr] at c8
    have hne:g ≠ w.heap.size:=fun e=>hn0.out (.inr (by rw [← e]; simp [klM,haf,oB]; left; rfl))
    go_upto_region 8 with (fail)
    refine wp_growP 9 [_,_,_,_,_,_,.v (.int .i64 (j:Int)),_,_] (Gk rfl (Gk rfl (Gf b 1 rfl rfl (Gf b 1 rfl rfl (Gf b 1 rfl rfl (Gl hm2.blk (V:=.slice (some ⟨g,off,none⟩) n S.H.cf) (by simp [mkC,MW.lst,haf,hnn]) rfl rfl rfl rfl (all_cons ?_ (Gr (.agg #[.int .u8 f.p[0].toNat,.int .u8 f.p[1].toNat,.int .u8 f.p[2].toNat,.int .u8 f.p[3].toNat,.int .u8 f.p[4].toNat,.int .u8 f.p[5].toNat,.int .u8 f.p[6].toNat,.int .u8 f.p[7].toNat,.int .i64 f.r,.bool f.u,.bool f.d,.int .i64 f.f,.int .i64 f.i]) (fun ρ y W hb hk=>(run_load_rd rfl (kx_at rfl hk) (blk_part (bx2.ext hb) 0 13) Try.underlying59 rfl (by kernel_rfl))) rfl rfl (Gr (.pointer (some ⟨g,off + j * 13,none⟩)) (fun ρ y W hb hk=>(run_idx rfl (kx_at rfl hk) (kx_at rfl hk) hjn Try.underlying25 frame_size)) rfl rfl (all_nil)))))))))) (fun _=>rfl) rfl ?_
    ·intro ρ y W hw hn hb hd; have E8:ρ (.tmp 8) = .int .i64 (j:Int):=(hn (.tmp 8) rfl).trans (by show Value.int IntKind.i64 (((X:Int) + (q:Int)) % (n:Int)) = _; rw [hj])
     refine asked_val (.int .i64 (j:Int)) (want_free rfl) (run_move (.inl rfl) E8) rfl
    intro y W3 hbW3 _
    have hm3:=hm2.below hbW3
    have hg3:=hg.ext hbW3
    have hs3:=hst.below hbW3
    clear hm2 bx2 hst hbW3 hg hc c8
    go_wp2_with (refine wpList_stv rfl _ _ _ rfl g (off + j * 13) _ (frL f) rfl rfl rfl _ _ hg3 (by rw [frL_len]; exact hgs) (by kernel_rfl) (one_toList (frC_one f)) ?_)
    intro w4 h4 hg4
    have ho4:=hgw'.out _ f h4
    have hm4:=hm3.putF hg3 hgB hg4 (fs:=S.H.m.fs.set j f) (by simp [MW.lst]) (by simpa [MW.lst] using ho4)
    have hs4:=hs3.put hg4 (H':=(S.lst a2 c2 l2).frs (S.H.m.fs.set j f)) (.inr (by simp [klM,MW.lst,haf,oB]; left; rfl)) (fun x hx => .inl hx)
    clear hm3 hs3 hg3 hg4 h4 ho4
    go_wp2
    go_ret
    exact ⟨j,a2,c2,l2,_,rfl,hm4,hs4,.inr ⟨j,rfl,by omega,by rw [hfj.out]; exact hr,rfl⟩⟩
   ·go_wp2
    go_roundw
    case rel=>exact ⟨q + 1,by omega,by go_num,by first | rfl | trivial⟩
    case measure=>simp [intOf]; omega
  ·have hqi:¬ (q:Int) < (n:Int):=by omega
   go_wp2
   go_ret
   exact ⟨-1,a2,c2,l2,S.H.m.fs,rfl,hm2,hst,.inl ⟨rfl,rfl⟩⟩
theorem rread_any (d:Dsk) (k:Int) (ab:Option Addr) (cb:Nat) (aq:Option Addr) (cq:Nat) (w:World) (h:DRd w ab cb aq cq d) :
  Calls Try.prog 97 #[.agg #[.slice ab d.blocks.length cb,.slice aq d.queue.length cq],.int .i64 k] w fun e w'=>e = .returned (.tuple #[.agg (pgC (readP d k)),.int .i64 (wrong_or d k)]) ∧ Below w.heap.size w w':=by
 go_enter Try.func97,Try.ntmps97
 go_wp2_with fail
 refine abs2 (fun W=>Calls _ _ _ W _) fun W0 hb0 hx0 hr0 hs0 => ?_
 refine (rdwrong_any d ab cb aq cq _ (h.below hb0)).mono ?_
 rintro e w1 ⟨rfl,hb1⟩
 have hbel1:=below_next hb0 hb1
 have hx1:=hx0.ext hb1
 have hres1:=hr0.ext hb1
 have h1:=h.below hbel1
 clear hx0 hr0 hb1 hb0 hs0
 have lq:=Nat.le_trans h1.lq h1.mq
 unfold maxLen at lq
 have hc1:=hx1.cell
 by_cases hw:wrongD d = 0
 ·rw [hw]
  by_cases hk:k < 0 ∨ (d.blocks.length:Int) ≤ k
  ·have q1:wrong_or d k = 3:=by unfold wrong_or; rw [if_neg (by omega),if_pos hk]
   have q2:pgC (readP d k) = #[.int .u8 0,.int .u8 0,.int .u8 0,.int .u8 0,.int .u8 0,.int .u8 0,.int .u8 0,.int .u8 0]:=by unfold readP; rw [q1]; rfl
   rcases hk with hk | hk
   all_goals
    go_wp2_with (refine wpList_stw rfl _ (.tmp 4) (.tmp 25) rfl (w.heap.size + 1) #[.int .u8 0,.int .u8 0,.int .u8 0,.int .u8 0,.int .u8 0,.int .u8 0,.int .u8 0,.int .u8 0] rfl rfl _ _ hres1 zz_fit zz_info zz_one ?_)
    all_goals
     intro w2 hr2 hgr
     have hbel2:=hbel1.grown hgr hbel1.size (fun k hk=>by cases hk; omega)
     have hcr:=hr2.cell
     go_wp2
     simp [bodyPost,results,go_sem,Try.results97,hcr,q1,q2]
     exact hbel2
  ·obtain ⟨k,rfl⟩:=Int.eq_ofNat_of_zero_le (show 0 ≤ k by omega)
   have hkl:k < d.blocks.length:=by omega
   have k1:¬ (d.blocks.length:Int) ≤ (k:Int):=by omega
   have kz:(k:Int) < (d.blocks.length:Int):=by omega
   have q1:wrong_or d k = 0:=by unfold wrong_or; rw [if_neg (by omega),if_neg hk]
   have q2:readP d k = over k d.blocks[k] d.queue:=by unfold readP; rw [q1,if_pos rfl]; simp [hkl]
   have Q:=Lib.hid (And.intro q1 q2)
   have hgx:w.heap.size + 2 ≤ w1.heap.size:=by have:=hres1.lt; omega
   clear hk q1 q2
   have hd:decide (d.blocks.length ≤ k) = false:=by simp; omega
   obtain ⟨b,off,rfl,hc⟩:=page_at h1.rb k hkl
   have c0:=hc 0 (by decide); have c1:=hc 1 (by decide); have c2:=hc 2 (by decide); have c3:=hc 3 (by decide)
   have c4:=hc 4 (by decide); have c5:=hc 5 (by decide); have c6:=hc 6 (by decide); have c7:=hc 7 (by decide)
   simp only [pgC,List.getElem?_toArray,List.getElem?_cons_zero,List.getElem?_cons_succ,Nat.add_zero] at c0 c1 c2 c3 c4 c5 c6 c7
   clear hc
   go_upto_region 7 with (fail)
   refine abs1 (fun W=>Code.wp _ _ _ _ W) fun w2 hb2 hp2 hs2 => ?_
   have hbel2:=below_next hbel1 hb2
   have hx2:=hx1.ext hb2
   have hres2:=hres1.ext hb2
   have hp2' : Blk w2 w1.heap.size (pgC d.blocks[k]) 50:=hp2
   clear hbel1 hx1 hres1 h1 hb2 hp2 hs2 hc1 c0 c1 c2 c3 c4 c5 c6 c7
   have hc2:=hx2.cell
   go_wp2
   clear hc2 hx2
   go_loopw [34] (fun i wr => ∃ j:Nat,j ≤ d.queue.length ∧ i = .int .i64 j ∧ Below w.heap.size w wr ∧ Blk wr (w.heap.size + 1) #[.int .u8 0,.int .u8 0,.int .u8 0,.int .u8 0,.int .u8 0,.int .u8 0,.int .u8 0,.int .u8 0] 50 ∧ Blk wr w1.heap.size (pgC (over k d.blocks[k] (d.queue.take j))) 50) (fun i _=>d.queue.length - (intOf i).toNat)
   case atStart=>exact ⟨0,Nat.zero_le _,rfl,hbel2,hres2,hp2'⟩
   case round=>
    clear hbel2 hres2 hp2'
    obtain ⟨j,hj,rfl,hbel,hres,hp⟩:=hrel
    by_cases hlt:j < d.queue.length
    ·obtain ⟨b',off',rfl,hc⟩:=put_at (h.below hbel).rq j hlt
     have c0:=hc 0 (by decide); have c1:=hc 1 (by decide); have c2:=hc 2 (by decide); have c3:=hc 3 (by decide); have c4:=hc 4 (by decide)
     have c5:=hc 5 (by decide); have c6:=hc 6 (by decide); have c7:=hc 7 (by decide); have c8:=hc 8 (by decide)
     simp only [puC,List.getElem?_toArray,List.getElem?_cons_zero,List.getElem?_cons_succ,Nat.add_zero] at c0 c1 c2 c3 c4 c5 c6 c7 c8
     clear hc
     have hot:=Lib.hid (over_take (k:Int) d.blocks[k] d.queue j hlt)
     by_cases he:d.queue[j].1 = (k:Int)
     ·have hot' : Hid (over (k:Int) d.blocks[k] (d.queue.take (j + 1)) = d.queue[j].2):=by have:=hot.out; rw [if_pos he] at this; exact this
      rw [he] at c0
      clear hot he
      have hpa:=hp.alloc (.cells #[.int .i64 k,.int .u8 d.queue[j].2[0].toNat,.int .u8 d.queue[j].2[1].toNat,.int .u8 d.queue[j].2[2].toNat,.int .u8 d.queue[j].2[3].toNat,.int .u8 d.queue[j].2[4].toNat,.int .u8 d.queue[j].2[5].toNat,.int .u8 d.queue[j].2[6].toNat,.int .u8 d.queue[j].2[7].toNat] 93)
      go_wp2_with (refine wpList_stw rfl _ (.tmp 7) (.tmp 43) rfl w1.heap.size (pgC d.queue[j].2) rfl rfl _ _ hpa (pg_fit2 _ _) (pg_info _) (pgC_one _) ?_)
      intro w4 hp4 hgr
      have hbel4:=(hbel.alloc hbel.size _).grown hgr (le_alloc' hbel.size _) (fun k hk=>by cases hk; omega)
      have hres4:=(hres.alloc _).grown hgr (fun he=>by have:=Option.some.inj he; omega)
      clear hpa hp hbel hres hgr c0 c1 c2 c3 c4 c5 c6 c7 c8
      go_wp2
      go_roundw
      case rel=>exact ⟨j + 1,by omega,by go_num,hbel4,hres4,by rw [hot'.out]; exact hp4⟩
      case measure=>simp [intOf]; omega
     ·have hot' : Hid (over (k:Int) d.blocks[k] (d.queue.take (j + 1)) = over (k:Int) d.blocks[k] (d.queue.take j)):=by have:=hot.out; rw [if_neg he] at this; exact this
      have hne:(d.queue[j].1 == (k:Int)) = false:=by simpa using he
      clear hot he
      go_wp2
      go_roundw
      case rel=>exact ⟨j + 1,by omega,by go_num,hbel.alloc hbel.size _,hres.alloc _,by rw [hot'.out]; exact hp.alloc _⟩
      case measure=>simp [intOf]; omega
    ·rw [List.take_of_length_le (show d.queue.length ≤ j by omega)] at hp
     have hq2:=Q.out.2
     rw [← hq2] at hp
     have hcp:=hp.cell
     rw [pgC_lit] at hcp
     clear hq2
     go_wp2_with (refine wpList_stw rfl _ (.tmp 4) (.tmp 45) rfl (w.heap.size + 1) (pgC (readP d k)) rfl rfl _ _ hres (pg_fit _) (pg_info _) (pgC_one _) ?_)
     intro w4 hr4 hgr
     have hbel4:=hbel.grown hgr hbel.size (fun k hk=>by cases hk; omega)
     have hcr:=hr4.cell
     obtain ⟨e0,e1,e2,e3,e4,e5,e6,e7⟩:=pgC_all (readP d k)
     clear hcp
     go_wp2
     simp [bodyPost,results,go_sem,Try.results97,hcr,e0,e1,e2,e3,e4,e5,e6,e7,Q.out.1]
     exact ⟨rfl,hbel4⟩
 ·have q1:wrong_or d k = wrongD d:=by unfold wrong_or; rw [if_pos hw]
  have q2:pgC (readP d k) = #[.int .u8 0,.int .u8 0,.int .u8 0,.int .u8 0,.int .u8 0,.int .u8 0,.int .u8 0,.int .u8 0]:=by unfold readP; rw [q1,if_neg hw]; rfl
  have hw' : (wrongD d != 0) = true:=by simpa using hw
  go_wp2_with (refine wpList_stw rfl _ (.tmp 4) (.tmp 14) rfl (w.heap.size + 1) #[.int .u8 0,.int .u8 0,.int .u8 0,.int .u8 0,.int .u8 0,.int .u8 0,.int .u8 0,.int .u8 0] rfl rfl _ _ hres1 zz_fit zz_info zz_one ?_)
  intro w2 hr2 hgr
  have hbel2:=hbel1.grown hgr hbel1.size (fun k hk=>by cases hk; omega)
  have hcr:=hr2.cell
  go_wp2
  simp [bodyPost,results,go_sem,Try.results97,hcr,q1,q2]
  exact hbel2
def newMa (f s b:Int):Ma:=if (0 ≤ f ∧ f ≤ 40) ∧ (0 ≤ s ∧ s ≤ 60) ∧ (0 ≤ b ∧ b ≤ 80) then ⟨newM f,newS s,newD s,newD b,⟨[],b⟩,[],[⟨true,[],zTb⟩]⟩ else zMa
def noH:MH:=⟨none,0,noM,none,0,[],none,0,none,0,⟨[],[]⟩,none,0,none,0,⟨[],[]⟩,none,0,[],0,none,0,[],none,0,[]⟩
def nTs:Vector Value 8:=⟨#[.slice none 0 0,.slice none 0 0,.slice none 0 0,.slice none 0 0,.slice none 0 0,.slice none 0 0,.slice none 0 0,.slice none 0 0],rfl⟩
theorem rd_first {w:World} {b o:Nat} {xs ys:List Value} (h:RdV w (some ⟨b,o,none⟩) (xs ++ ys)):RdV w (some ⟨b,o,none⟩) xs:=fun i u hi=>h i u (by
 rw [List.getElem?_append_left (List.getElem?_eq_some_iff.1 hi).1]; exact hi)
theorem frL_page (x:Fr):∃ ys,frL x = pgL x.p ++ ys:=⟨_,rfl⟩
theorem find_snoc {l:List Cc} {q:Nat} {c:Cc} {f i:Int} (hc:l[q]? = some c) (hno:∀ d ∈ l.take q,¬ (d.f = f ∧ d.i = i)) (hy:c.f = f ∧ c.i = i):l.find? (fun c=>decide (c.f = f) && decide (c.i = i)) = some c:=by
 rw [← List.take_append_drop q l,List.find?_append,List.find?_eq_none.2 (fun d hd=>by
  have:=hno d hd
  simp only [Bool.and_eq_true,decide_eq_true_eq]
  exact this)]
 rw [List.drop_eq_getElem_cons (List.getElem?_eq_some_iff.1 hc).1,(List.getElem?_eq_some_iff.1 hc).2,List.find?_cons,hy.1,hy.2]
 simp
theorem find_noneC {l:List Cc} {f i:Int} (hno:∀ d ∈ l,¬ (d.f = f ∧ d.i = i)):l.find? (fun c=>decide (c.f = f) && decide (c.i = i)) = none:=
 List.find?_eq_none.2 (fun d hd=>by
  have:=hno d hd
  simp only [Bool.and_eq_true,decide_eq_true_eq]
  exact this)
theorem rcontent_any (H:MH) (f i:Int) (w:World) (h:MaR w H) (hz:H.ca.length ≤ 1000 ∧ ∀ f ∈ H.ma.st.fs,f.b.length ≤ 1000) (hck:∀ c ∈ H.ca,0 ≤ c.k ∧ c.k < H.m.fs.length) (hf:0 ≤ f ∧ f < H.fi.length) (hi:0 ≤ i ∧ i < (fileAt H.ma.st f).b.length) :
  Calls Try.prog 62 #[.agg (mhC H),.int .i64 f,.int .i64 i] w fun r w'=>r = .returned (.agg (pgC (contentP H.ma f i))) ∧ Below w.heap.size w w':=by
 have z7:H.ca.length ≤ 1000:=hz.1
 go_enter Try.func62,Try.ntmps62
 go_upto_region 1 with (fail)
 refine abs2 (fun W=>Code.wp _ _ _ _ W) fun w1 hb0 bx1 rx1 hs1 => ?_
 clear hs1
 have hcb:=bx1.cell
 unfold mhC at hcb
 go_upto_region 2 with (fail)
 clear hcb
 go_loopw [16] (fun k wr => ∃ q:Nat,q ≤ H.ca.length ∧ k = .int .i64 q ∧ Below w.heap.size w wr ∧ Blk wr w.heap.size (mhC H) 40 ∧ Blk wr (w.heap.size + 1) (pgC zPg) 50 ∧ Hid (∀ d ∈ H.ca.take q,¬ (d.f = f ∧ d.i = i))) (fun k _=>H.ca.length - (intOf k).toNat)
 case atStart=>exact ⟨0,Nat.zero_le _,rfl,hb0,bx1,rx1,Lib.hid (by simp)⟩
 case round=>
  clear hb0 bx1 rx1
  obtain ⟨q,hq,rfl,hbr,bx,rx,hno⟩:=hrel
  by_cases hql:q < H.ca.length
  ·obtain ⟨bc,oc,hca,hrd⟩:=cc_elem (h.below hbr).ca.rd q hql
   obtain ⟨c,hc⟩:∃ c,H.ca[q]? = some c:=⟨_,List.getElem?_eq_getElem hql⟩
   rw [show H.ca[q] = c from (List.getElem?_eq_some_iff.1 hc).2] at hrd
   have hqi:(q:Int) < (H.ca.length:Int):=by omega
   have hck1:=hck c (List.mem_of_getElem? hc)
   have hc':=Lib.hid hc
   clear hc
   rw [hca]
   go_wp2_with (first | (refine wpList_ldg _ _ rfl bc (oc + q * 3) rfl rfl _ hrd _ Try.underlying85 rfl cached_size ?_) | (refine wpList_stn rfl _ _ _ rfl (ccC c) rfl rfl rfl cached_size (ccC_one c) ?_))
   intro w3 hb3 cx3
   have hbr3:=below_next hbr hb3
   have bx3:=bx.ext hb3
   have rx3:=rx.ext hb3
   have hcx:=cx3.cell
   have hl3:=rx3.lt
   clear hbr bx rx hb3 hrd
   unfold ccC at hcx
   by_cases hy:c.f = f ∧ c.i = i
   ·obtain ⟨hy1,hy2⟩:=hy
    obtain ⟨k,hk⟩:=Int.eq_ofNat_of_zero_le hck1.1
    have hkl:k < H.m.fs.length:=by have:=hck1.2; omega
    obtain ⟨bf,of,haf,hfrd⟩:=elemR frL_len (by decide) (h.below hbr3).fr.rd k hkl
    have hki:(k:Int) < (H.m.fs.length:Int):=by omega
    have hcont:Hid (contentP H.ma f i = (H.m.fs[k]).p):=Lib.hid (by
     unfold contentP
     rw [show H.ma.ca.find? (fun c=>decide (c.f = f) && decide (c.i = i)) = some c from find_snoc hc'.out hno.out ⟨hy1,hy2⟩]
     show (H.m.fs.getD c.k.toNat fr0).p = _
     rw [hk,List.getD_eq_getElem?_getD,show ((k:Nat):Int).toNat = k from rfl,List.getElem?_eq_getElem hkl]; rfl)
    generalize H.m.fs[k] = X at hfrd hcont
    obtain ⟨ys,hys⟩:=frL_page X
    rw [hys] at hfrd
    have hprd:=rd_first hfrd
    have hcm:w3.cell? ⟨w.heap.size,0,none⟩ = some (.slice (some ⟨bf,of,none⟩) H.m.fs.length H.cf):=by rw [bx3.cell,← haf]; rfl
    rw [hy1,hy2,hk] at hcx
    clear hfrd hys
    go_wp2_with (first | (refine wpList_ldg _ _ rfl bf (of + k * 13) rfl rfl _ hprd _ Try.underlying50 rfl psize ?_) | (refine wpList_stw rfl _ _ _ rfl (w.heap.size + 1) (pgC X.p) rfl rfl _ _ rx3 rfl psize (pgC_one X.p) ?_))
    intro w4 rx4 hg4
    have hb4:=hbr3.grown hg4 hbr3.size (fun k hk=>by cases hk; omega)
    clear hcx hcm
    go_wp2
    refine bodyPost_ret (v:=.agg (pgC X.p)) (results_c Try.results62 _ _ (w.heap.size + 1) _ _ _ rfl rx4 Try.underlying50 rfl psize) rfl ?_
    exact ⟨by rw [hcont.out],hb4⟩
   ·have hno' : Hid (∀ d ∈ H.ca.take (q + 1),¬ (d.f = f ∧ d.i = i)):=Lib.hid fun d hd=>by
     rw [take_at hc'.out] at hd
     rcases List.mem_append.1 hd with hd | hd
     ·exact hno.out d hd
     ·rw [List.mem_singleton.1 hd]; exact hy
    by_cases hy1:c.f = f
    ·have hy2:¬ c.i = i:=fun e=>hy ⟨hy1,e⟩
     clear hy
     go_wp2
     go_roundw
     case rel=>exact ⟨q + 1,by omega,by go_num,hbr3,bx3,rx3,hno'⟩
     case measure=>simp [intOf]; omega
    ·clear hy
     go_wp2
     go_roundw
     case rel=>exact ⟨q + 1,by omega,by go_num,hbr3,bx3,rx3,hno'⟩
     case measure=>simp [intOf]; omega
  ·have hqi:¬ (q:Int) < (H.ca.length:Int):=by omega
   rw [List.take_of_length_le (by omega)] at hno
   have hcx:=bx.cell
   unfold mhC at hcx
   obtain ⟨F,rfl⟩:=Int.eq_ofNat_of_zero_le hf.1
   obtain ⟨I,rfl⟩:=Int.eq_ofNat_of_zero_le hi.1
   have hFl:F < H.fi.length:=by omega
   obtain ⟨bf,of,hai,hrd⟩:=elemR pfL_len (by decide) h.st.rd F hFl
   obtain ⟨p,hp⟩:∃ p,H.fi[F]? = some p:=⟨_,List.getElem?_eq_getElem hFl⟩
   rw [show H.fi[F] = p from (List.getElem?_eq_some_iff.1 hp).2] at hrd
   have hrd0:=Lib.hid hrd
   have hrd:=hrd.below hbr
   have hgood:=(h.below hbr).st.good p (List.mem_of_getElem? hp)
   have hfa:fileAt H.ma.st (F:Int) = p.fi:=by
    unfold fileAt
    rw [if_pos (by omega)]
    show (H.fi.map PF.fi).getD F ⟨0,[]⟩ = p.fi
    rw [List.getD_eq_getElem?_getD,List.getElem?_map,hp]; rfl
   rw [hfa] at hi
   have hIl:I < p.l.length:=by have h2:=hi.2; have e:p.fi.b.length = p.l.length:=rfl; omega
   have hpz:p.l.length ≤ 1000:=hz.2 p.fi (List.mem_map.2 ⟨p,List.mem_of_getElem? hp,rfl⟩)
   obtain ⟨bb,ob,hpa,hcb⟩:=elem_at hgood.rd I hIl
   obtain ⟨x,hX⟩:∃ x,p.l[I]? = some x:=⟨_,List.getElem?_eq_getElem hIl⟩
   rw [show p.l[I] = x from (List.getElem?_eq_some_iff.1 hX).2] at hcb
   have hba:blockAt H.ma.st (F:Int) (I:Int) = x:=by
    unfold blockAt
    rw [hfa]
    show p.l.getD I 0 = x
    rw [List.getD_eq_getElem?_getD,hX]; rfl
   have rc:∀ j u,(pfL p)[j]? = some u → wr.cell? ⟨bf,of + F * 2 + j,none⟩ = some u:=fun j u hj=>by
    obtain ⟨b',o',e,hcc⟩:=hrd j u hj
    cases e
    exact hcc
   have rc0:wr.cell? ⟨bf,of + F * 2,none⟩ = some (.int .i64 p.n):=rc 0 _ rfl
   have rc1:wr.cell? ⟨bf,of + F * 2 + 1,none⟩ = some (.slice p.a p.l.length p.c):=rc 1 _ rfl
   have hcont:Hid (contentP H.ma F I = if 0 ≤ x then cutPage (readP H.dk x) (p.n - (I:Int) * 8) else zPg):=Lib.hid (by
    unfold contentP
    rw [show H.ma.ca.find? (fun c=>decide (c.f = (F:Int)) && decide (c.i = (I:Int))) = none from find_noneC hno.out,hba,hfa]
    rfl)
   have hFi:(F:Int) < (H.fi.length:Int):=by omega
   have hIi:(I:Int) < (p.l.length:Int):=by omega
   rw [hpa] at rc1
   rw [hai] at hcx
   have hrd':=Lib.hid hrd
   have hai':=Lib.hid hai
   have hpa':=Lib.hid hpa
   have hfi':=Lib.hid hfa
   clear rc hrd hai hpa hfa hp hX hba hi hgood
   by_cases hx:x < 0
   ·go_wp2_with (refine wpList_stw rfl _ _ _ rfl (w.heap.size + 1) (pgC zPg) rfl rfl _ _ rx rfl psize (pgC_one _) ?_)
    intro w4 rx4 hg4
    have hb4:=hbr.grown hg4 hbr.size (fun k hk=>by cases hk; omega)
    clear hcx
    go_wp2
    refine bodyPost_ret (v:=.agg (pgC zPg)) (results_c Try.results62 _ _ (w.heap.size + 1) _ _ _ rfl rx4 Try.underlying50 rfl psize) rfl ?_
    exact ⟨by rw [hcont.out,if_neg (by omega)],hb4⟩
   ·go_wp2_with (refine wpList_ldg _ _ rfl w.heap.size 5 rfl rfl _ (blk_part bx 5 2) _ Try.underlying33 rfl disk_size ?_)
    refine (rread_any H.dk x _ _ _ _ _ (h.below hbr).dk).mono ?_
    rintro r w4 ⟨rfl,hb4⟩
    have hfr:=Blk.new w4 (pgC zPg) 50
    have hba:Below w4.heap.size w4 (w4.alloc (.cells (pgC zPg) 50)):=(Below.refl _ _).alloc (Nat.le_refl _) _
    have hl4:=hb4.size
    have hlr:=rx.lt
    have bx5:=(bx.ext hb4).ext hba
    have rx5:=(rx.ext hb4).ext hba
    have hbr5:=below_next (below_next hbr hb4) hba
    clear hcx hcb rc0 rc1 bx rx hbr
    go_wp2_with (refine wpList_stw rfl _ _ _ rfl w4.heap.size (pgC (readP H.dk x)) rfl rfl _ _ hfr rfl psize (pgC_one _) ?_)
    intro w5 px6 hg5
    have hb6:=hbr5.grown hg5 hbr5.size (fun k hk=>by cases hk; omega)
    have bx6:=bx5.grown hg5 (fun e=>by have:=Option.some.inj e; omega)
    have rx6:=rx5.grown hg5 (fun e=>by have:=Option.some.inj e; omega)
    clear hfr hba bx5 rx5 hbr5 hg5 hb4
    generalize readP H.dk x = P at px6 hcont
    generalize hp4:w4.heap.size = p4 at *
    clear hp4
    go_upto_region 12 with (fail)
    go_loopw [59] (fun j wr => ∃ k:Nat,k ≤ 8 ∧ j = .int .i64 k ∧ Below w.heap.size w wr ∧ Blk wr w.heap.size (mhC H) 40 ∧ Blk wr (w.heap.size + 1) (pgC zPg) 50 ∧ Blk wr p4 (pgC (cutTo P (p.n - (I:Int) * 8) k)) 50) (fun j _=>8 - (intOf j).toNat)
    case atStart=>exact ⟨0,by omega,rfl,hb6,bx6,rx6,by rw [show cutTo P (p.n - (I:Int) * 8) 0 = P from by ext j hj; simp [cutTo]]; exact px6⟩
    case round=>
     clear hb6 bx6 rx6 px6
     obtain ⟨k,hk,rfl,hbr,bx,rx,px⟩:=hrel
     by_cases hk8:k < 8
     ·have hki:(k:Int) < 8:=by omega
      have hcx:=bx.cell
      unfold mhC at hcx
      rw [hai'.out] at hcx
      have rc0:wr.cell? ⟨bf,of + F * 2,none⟩ = some (.int .i64 p.n):=by
       obtain ⟨b',o',e,hcc⟩:=(hrd0.out.below hbr) 0 _ rfl
       cases e
       exact hcc
      have hw1:IntKind.i64.wrap (8 * (I:Int)) = 8 * (I:Int):=IntWalk.i64_in _ (by omega)
      have hw2:IntKind.i64.wrap (8 * (I:Int) + (k:Int)) = 8 * (I:Int) + (k:Int):=IntWalk.i64_in _ (by omega)
      by_cases hge:p.n ≤ 8 * (I:Int) + k
      ·have hset:Hid ((pgC (cutTo P (p.n - (I:Int) * 8) k)).setIfInBounds k (.int .u8 0) = pgC (cutTo P (p.n - (I:Int) * 8) (k + 1))):=Lib.hid (by
        rw [← cutTo_set P _ k hk8 (by omega)]; exact pgC_set _ k hk8 0)
       generalize hT:cutTo P (p.n - (I:Int) * 8) k = T at px hset
       clear hT
       go_wp2_with (refine wpList_stv rfl _ _ _ rfl p4 k _ [.int .u8 0] rfl rfl rfl _ _ px (by show k + 1 ≤ 8; omega) (by kernel_rfl) (fun u hu=>by cases List.mem_singleton.1 hu; rfl) ?_)
       intro w7 px7 hg7
       rw [putAt_one,hset.out] at px7
       have hbr7:=hbr.grown hg7 hbr.size (fun k hk=>by cases hk; omega)
       have bx7:=bx.grown hg7 (fun e=>by have:=Option.some.inj e; omega)
       have rx7:=rx.grown hg7 (fun e=>by have:=Option.some.inj e; omega)
       clear hbr bx rx px hg7 hcx rc0
       go_wp2
       go_roundw
       case rel=>exact ⟨k + 1,by omega,by go_num,hbr7,bx7,rx7,px7⟩
       case measure=>simp [intOf]; omega
      ·have hset:cutTo P (p.n - (I:Int) * 8) k = cutTo P (p.n - (I:Int) * 8) (k + 1):=by
        ext j hj
        simp only [cutTo,Vector.getElem_ofFn]
        by_cases e:p.n - (I:Int) * 8 ≤ (j:Int)
        ·rw [if_neg (by omega),if_neg (by omega)]
        ·rw [if_neg (by omega),if_neg (by omega)]
       rw [hset] at px
       clear hset
       go_wp2
       go_roundw
       case rel=>exact ⟨k + 1,by omega,by go_num,hbr,bx,rx,px⟩
       case measure=>simp [intOf]; omega
     ·have hki:¬ (k:Int) < 8:=by omega
      rw [cutTo_end _ _ k (by omega)] at px
      have hcont' : Hid (contentP H.ma F I = cutPage P (p.n - (I:Int) * 8)):=Lib.hid (by rw [hcont.out,if_pos (by omega)])
      generalize cutPage P (p.n - (I:Int) * 8) = C at px hcont'
      go_wp2_with (first | (refine wpList_ldg _ _ rfl p4 0 rfl rfl _ px.rd _ Try.underlying50 rfl psize ?_) | (refine wpList_stw rfl _ _ _ rfl (w.heap.size + 1) (pgC C) rfl rfl _ _ rx rfl psize (pgC_one _) ?_))
      intro w7 rx7 hg7
      have hb7:=hbr.grown hg7 hbr.size (fun k hk=>by cases hk; omega)
      go_wp2
      refine bodyPost_ret (v:=.agg (pgC C)) (results_c Try.results62 _ _ (w.heap.size + 1) _ _ _ rfl rx7 Try.underlying50 rfl psize) rfl ?_
      exact ⟨by rw [hcont'.out],hb7⟩
theorem srt_len:∀ {l:List Nat} {a n:Nat},l.Pairwise (· < ·) → (∀ x ∈ l,a ≤ x ∧ x < n) → l.length ≤ n - a
 | [],_,_,_,_=>by simp
 | x :: l,a,n,hs,h=>by
  obtain ⟨h1,h2⟩:=List.pairwise_cons.1 hs
  have hx:=h x List.mem_cons_self
  have:=srt_len (a:=x + 1) (n:=n) h2 fun y hy=>⟨h1 y hy,(h y (List.mem_cons_of_mem _ hy)).2⟩
  rw [List.length_cons]
  omega
theorem ca_few {m:Ma} (h:CaOk m) (hs:wrongSt m.st = 0):m.ca.length ≤ 60:=by
 have hl:∀ c ∈ m.ca,0 ≤ c.f ∧ c.f < 5 ∧ 0 ≤ c.i ∧ c.i < 12:=fun c hc=>by
  have h1:=h.file c hc
  have h2:=inF_lt hs h1
  have h3:=h1.1; have h4:=h1.2
  omega
 have key:=srt_len (l:=m.ca.map fun c=>(12 * c.f + c.i).toNat) (a:=0) (n:=60) ?_ fun x hx => ?_
 ·simpa using key
 ·rw [List.pairwise_map]
  refine List.Pairwise.imp_of_mem ?_ h.srt
  intro a b ha hb hab
  have h1:=hl a ha
  have h2:=hl b hb
  unfold ltC at hab
  show (12 * a.f + a.i).toNat < (12 * b.f + b.i).toNat
  omega
 ·obtain ⟨c,hc,rfl⟩:=List.mem_map.1 hx
  have h1:=hl c hc
  show 0 ≤ (12 * c.f + c.i).toNat ∧ (12 * c.f + c.i).toNat < 60
  omega
theorem files_few {s:St} (hs:wrongSt s = 0):∀ f ∈ s.fs,f.b.length ≤ 12:=fun f hf=>by
 obtain ⟨k,hk,rfl⟩:=List.mem_iff_getElem.1 hf
 have h1:=file_ok hs (f:=(k:Int)) ⟨by omega,by omega⟩
 have hfa:fileAt s (k:Int) = s.fs[k]:=fileAt_nat (List.getElem?_eq_getElem hk)
 rw [hfa] at h1
 obtain ⟨a1,a2,a3,_⟩:=h1
 have e:(s.fs[k].b.length:Int) ≤ 12:=by
  rw [a3]; unfold countS
  split <;> omega
 omega
theorem run_app0 {P:Program} {ρ:Operand → Value} {o:Oper} {w:World} (s x:Operand) (t:TypeId) (ho:o.op = Op.call { callee:=Callee.builtin Builtin.append,args:=#[s,x],argTypes:=#[t,t] })
  (B:Nat) (e:TypeId) (z:Value) (size bytes:Nat) (h1:P.underlying t = some (.slice e)) (h2:(P.info? e).map (fun i=>(i.zero,i.size,i.bytes)) = some (some z,size,bytes)) (h6:z.cells.size = size) (h7:0 < size)
  (g:Nat) (hs:ρ s = .slice (some ⟨g,0,none⟩) 0 0) (hown:Own w B e size (.slice (some ⟨g,0,none⟩) 0 0) 0 [])
  (ao:Option Addr) (m c:Nat) (news:List Value) (hx:ρ x = .slice ao m c) (hnone:ao = none → c = 0) (hmc:m ≤ c) (hn:news.length = m * size) (hrd:RdV w ao news)
  (b1:m ≤ maxLen) (b2:m * bytes ≤ 140737488355328) (hB:B ≤ w.heap.size) :
  ∃ v' w',(execOp ρ o).run P w = .ok (.value v') w' ∧ Below w.heap.size w w' ∧ Own w' B e size v' m news:=by
 obtain ⟨ii,hi,hz,hsz,hby⟩:=info_parts h2
 rcases Nat.eq_zero_or_pos m with h0 | h0
 ·subst h0
  obtain rfl:news = []:=List.eq_nil_of_length_eq_zero (by simpa using hn)
  refine ⟨.slice (some ⟨g,0,none⟩) 0 0,w,?_,Below.refl _ _,hown⟩
  cases ao with
  | none=>simp [execOp,ho,resolve,invoke,builtin,hs,hx,Builtin.append_,run_underlying h1,Go.sizeOf,typeInfo,hi,Builtin.lenOf,Builtin.firstCells,storeCells,Result.andThen]
  | some ad=>simp [execOp,ho,resolve,invoke,builtin,hs,hx,Builtin.append_,run_underlying h1,Go.sizeOf,typeInfo,hi,Builtin.lenOf,Builtin.firstCells,storeCells,loadCells,loadCellsFrom,Result.andThen]
 ·obtain ⟨b,off,rfl,hc⟩:=hrd.at (by rw [hn]; exact Nat.mul_pos h0 h7)
  obtain ⟨v',w',hr,how,hgr⟩:=run_append_arg_grows (P:=P) w t o.type e ii z size bytes h1 hi hz hsz hby h6 h7 ⟨g,0,none⟩ 0 0 [] (by simp) (fun j u h=>by simp at h) ⟨b,off,none⟩ m c news hn (fun j u hj=>by rw [Addr.add_lit]; exact hc j u hj) (by omega) (by omega) (by rw [Nat.zero_add]; exact b2)
  have ho' : Own w' B e size v' m news:=by
   have:=(Own.of_owns how).mono hB
   simpa using this
  refine ⟨v',w',?_,grown_below hgr,ho'⟩
  simp [execOp,ho,resolve,invoke,builtin,hs,hx,hr,Result.andThen]
theorem asked_appQ {P:Program} {ops:Array Oper} {ρ:Operand → Value} {o:Oper} {w:World} {l:List Rel} {i:Nat} {J:(Nat → Bool) → (Nat → Value) → World → Prop} {L:Nat → Bool} {y:Nat → Value} {D:Value → World → Prop} (hw:Region.wanted o (says ρ ops) = true) (h:∃ v' w',(execOp ρ o).run P w = .ok (.value v') w' ∧ D v' w')
  (hJ:∀ v w',D v w' → J (updL L i) (updV y i v) w') (hR:∀ v w',D v w' → rl l i v w') :
  if Region.wanted o (says ρ ops) = true then GivesR P o ρ w (fun v w'=>J (updL L i) (updV y i v) w' ∧ rl l i v w') else J (updL L i) (updV y i undef) w ∧ rl l i undef w:=by
 obtain ⟨v,w',h1,h2⟩:=h
 exact asked_runQ v hw h1 (hJ _ _ h2) (hR _ _ h2)
theorem asked_ex {P:Program} {ops:Array Oper} {ρ:Operand → Value} {o:Oper} {w:World} {l:List Rel} {i:Nat} {D:Value → Prop} (hw:Region.wanted o (says ρ ops) = true) (h:∃ v,(execOp ρ o).run P w = .ok (.value v) w ∧ D v) (hR:∀ v,D v → rl l i v w) :
  if Region.wanted o (says ρ ops) = true then GivesR P o ρ w (fun v w'=>Below w.heap.size w w' ∧ rl l i v w') else rl l i undef w:=by
 obtain ⟨v,h1,h2⟩:=h
 exact asked_val v hw h1 (hR _ h2)
theorem flat_take {α:Type} (enc:α → List Value) (sz:Nat) (hsz:∀ x,(enc x).length = sz):∀ (l:List α) (k:Nat),(l.flatMap enc).take (k * sz) = (l.take k).flatMap enc
 | [],k=>by simp
 | x :: l,0=>by simp
 | x :: l,k + 1=>by
  rw [List.flatMap_cons,List.take_succ_cons,List.flatMap_cons,Nat.succ_mul,Nat.add_comm,List.take_append,hsz,List.take_of_length_le (by rw [hsz]; omega),Nat.add_sub_cancel_left,flat_take enc sz hsz l k]
theorem flat_drop {α:Type} (enc:α → List Value) (sz:Nat) (hsz:∀ x,(enc x).length = sz):∀ (l:List α) (k:Nat),(l.flatMap enc).drop (k * sz) = (l.drop k).flatMap enc
 | [],k=>by simp
 | x :: l,0=>by simp
 | x :: l,k + 1=>by
  rw [List.flatMap_cons,List.drop_succ_cons,Nat.succ_mul,Nat.add_comm,List.drop_append,hsz,List.drop_eq_nil_of_le (by rw [hsz]; omega),List.nil_append,Nat.add_sub_cancel_left,flat_drop enc sz hsz l k]
theorem insert_flat (l : List Cc) (c : Cc) (q : Nat) (hq : q ≤ l.length) : ((l.flatMap ccL).take (q * 3) ++ ccL c) ++ (l.flatMap ccL).drop (q * 3) = (l.insertIdx q c).flatMap ccL := by
  rw [flat_take ccL 3 ccL_len, flat_drop ccL 3 ccL_len]
  have : ∀ (l : List Cc) (q : Nat), q ≤ l.length → l.insertIdx q c = l.take q ++ c :: l.drop q := by
    intro l
    induction l with
    | nil => intro q hq; obtain rfl : q = 0 := by simpa using hq
             rfl
    | cons x l ih => intro q hq; cases q with
      | zero => rfl
      | succ q => rw [List.insertIdx_succ_cons, ih q (by simpa using hq)]; rfl
  rw [this l q hq]
  simp [List.flatMap_append]
theorem SlR.take {w:World} {a:Option Addr} {c n k sz:Nat} {vs:List Value} (h:SlR w a c n vs) (hk:k ≤ n):SlR w a c k (vs.take (k * sz)):=
 ⟨Nat.le_trans hk h.le,h.mx,h.nl,fun j u hj=>h.rd j u (by
  rw [List.getElem?_take] at hj
  split at hj
  ·exact hj
  ·cases hj)⟩
theorem run_take {P:Program} {ρ:Operand → Value} {o:Oper} {W0 w:World} {t e:TypeId} {x i:Operand} {a:Option Addr} {n c k sz:Nat} {vs:List Value} (ho:o.op = .slice t x none (some i) none) (hx:ρ x = .slice a n c) (hy:ρ i = .int .i64 (k:Int)) (hk:k ≤ n)
  (hu:P.underlying t = some (.slice e)) (hs:(P.info? e).map (·.size) = some sz) (h:SlR W0 a c n vs):(execOp ρ o).run P w = .ok (.value (.slice a k c)) w ∧ SlR W0 a c k (vs.take (k * sz)):=by
 obtain ⟨inf,hinf,hsz⟩:∃ inf,P.info? e = some inf ∧ inf.size = sz:=by
  cases h:P.info? e with
  | none=>rw [h] at hs; cases hs
  | some inf=>rw [h] at hs; exact ⟨inf,rfl,by simpa using hs⟩
 have hso:(Go.sizeOf e).run P w = .ok sz w:=by simp [Go.sizeOf,typeInfo,hinf,go_sem,hsz]
 have hle:=h.le
 refine ⟨?_,Nat.le_trans hk h.le,h.mx,h.nl,fun j u hj=>h.rd j u (by
  rw [List.getElem?_take] at hj
  split at hj
  ·exact hj
  ·cases hj)⟩
 have hkc:(k:Int) ≤ (c:Int):=by omega
 cases a with
 | none=>
  have hc0:=h.nl rfl
  subst hc0
  obtain rfl:k = 0:=by omega
  simp [execOp,go_sem,ho,hx,hy,hu,hso,hkc]
 | some ad=>simp [execOp,go_sem,ho,hx,hy,hu,hso,hkc]
theorem run_drop {P:Program} {ρ:Operand → Value} {o:Oper} {W0 w:World} {t e:TypeId} {x i:Operand} {a:Option Addr} {n c k sz:Nat} {vs:List Value} (ho:o.op = .slice t x (some i) none none) (hx:ρ x = .slice a n c) (hy:ρ i = .int .i64 (k:Int)) (hk:k ≤ n)
  (hu:P.underlying t = some (.slice e)) (hs:(P.info? e).map (·.size) = some sz) (hl:vs.length = n * sz) (h:SlR W0 a c n vs):∃ v,(execOp ρ o).run P w = .ok (.value v) w ∧ ∃ a' c',v = .slice a' (n - k) c' ∧ SlR W0 a' c' (n - k) (vs.drop (k * sz)):=by
 obtain ⟨inf,hinf,hsz⟩:∃ inf,P.info? e = some inf ∧ inf.size = sz:=by
  cases h:P.info? e with
  | none=>rw [h] at hs; cases hs
  | some inf=>rw [h] at hs; exact ⟨inf,rfl,by simpa using hs⟩
 have hso:(Go.sizeOf e).run P w = .ok sz w:=by simp [Go.sizeOf,typeInfo,hinf,go_sem,hsz]
 have hle:=h.le
 have hmx:=h.mx
 have hkn:(k:Int) ≤ (n:Int):=by omega
 have hnc:(n:Int) ≤ (c:Int):=by omega
 cases a with
 | none=>
  have hc0:=h.nl rfl
  subst hc0
  obtain rfl:n = 0:=by omega
  obtain rfl:k = 0:=by omega
  obtain rfl:vs = []:=List.eq_nil_of_length_eq_zero (by simpa using hl)
  exact ⟨.slice none 0 0,by simp [execOp,go_sem,ho,hx,hy,hu,hso],none,0,rfl,Nat.le_refl _,Nat.zero_le _,fun _=>rfl,by rw [List.drop_nil]; exact RdV.nil⟩
 | some ad=>
  by_cases hc:k = c
  ·subst hc
   obtain rfl:k = n:=by omega
   refine ⟨.slice (some ad) 0 0,by simp [execOp,go_sem,ho,hx,hy,hu,hso],some ad,0,by rw [Nat.sub_self],by omega,Nat.zero_le _,fun e=>(by cases e),?_⟩
   rw [List.drop_eq_nil_of_le (by omega)]
   exact RdV.nil
  ·refine ⟨.slice (some (ad.add (k * sz))) (n - k) (c - k),?_,some (ad.add (k * sz)),c - k,rfl,by omega,by omega,fun e=>(by cases e),?_⟩
   ·have h1:k < c:=by omega
    simp [execOp,go_sem,ho,hx,hy,hu,hso,hkn,hnc,h1]
    exact fun e=>absurd e.symm hc
   ·intro i u hi
    rw [List.getElem?_drop] at hi
    obtain ⟨b,off,e1,e2⟩:=h.rd _ _ hi
    cases e1
    exact ⟨b,off + k * sz,by rw [Addr.add_lit],by rw [Nat.add_assoc]; exact e2⟩
def jIns (W0:World) (q:Nat) (l:List Cc) (c:Cc):(Nat → Bool) → (Nat → Value) → World → Prop:=fun L y W=>
 Below W0.heap.size W0 W ∧ (L 23 = true → L 15 = true) ∧ (L 15 = true → L 9 = true) ∧
 (L 1 = true → L 9 = false → ∃ g,y 1 = .slice (some ⟨g,0,none⟩) 0 0 ∧ Own W W0.heap.size 85 3 (.slice (some ⟨g,0,none⟩) 0 0) 0 []) ∧
 (L 9 = true → L 15 = false → Own W W0.heap.size 85 3 (y 9) q ((l.flatMap ccL).take (q * 3))) ∧
 (L 14 = true → L 15 = false → ∃ a e,y 14 = .slice a 1 e ∧ SlR W a e 1 (ccL c)) ∧
 (L 15 = true → L 23 = false → Own W W0.heap.size 85 3 (y 15) (q + 1) ((l.flatMap ccL).take (q * 3) ++ ccL c)) ∧
 (L 23 = true → Own W W0.heap.size 85 3 (y 23) (q + 1 + (l.length - q)) (((l.flatMap ccL).take (q * 3) ++ ccL c) ++ (l.flatMap ccL).drop (q * 3)))
theorem jIns_st {W0:World} {q:Nat} {l:List Cc} {c:Cc}:∀ L y W W',Below W.heap.size W W' → jIns W0 q l c L y W → jIns W0 q l c L y W':=
 fun _ _ _ _ hb ⟨h1,h2,h3,h4,h5,h6,h7,h8⟩=>⟨below_next h1 hb,h2,h3,fun a b=>by
  obtain ⟨g,e1,e2⟩:=h4 a b
  exact ⟨g,e1,e2.below hb⟩,fun a b=>(h5 a b).below hb,fun a b=>by
  obtain ⟨x,e,e1,e2⟩:=h6 a b
  exact ⟨x,e,e1,e2.below hb⟩,fun a b=>(h7 a b).below hb,fun a=>(h8 a).below hb⟩
theorem jIns_0 {W0:World} {q:Nat} {l:List Cc} {c:Cc} (y:Nat → Value):jIns W0 q l c (fun _=>false) y W0:=by
 refine ⟨Below.refl _ _,?_,?_,?_,?_,?_,?_,?_⟩ <;> · intro h; cases h
theorem jIns_1 {W0 W:World} {q:Nat} {l:List Cc} {c:Cc} {L:Nat → Bool} {y:Nat → Value} (h:jIns W0 q l c L y W):jIns W0 q l c (updL L 1) (updV y 1 (.slice (some ⟨W.heap.size,0,none⟩) 0 0)) (W.alloc (.cells #[] 85)):=by
 obtain ⟨h1,h2,h3,h4,h5,h6,h7,h8⟩:=jIns_st _ _ _ _ ((Below.refl _ _).alloc (Nat.le_refl _) (.cells #[] 85)) h
 exact ⟨h1,h2,h3,fun _ _=>⟨_,rfl,Own.empty _ _ h.1.size⟩,h5,h6,h7,h8⟩
theorem jIns_9 {W0 W W' : World} {q:Nat} {l:List Cc} {c:Cc} {L:Nat → Bool} {y:Nat → Value} {v:Value} (h:jIns W0 q l c L y W) (hb:Below W.heap.size W W') (ho:Own W' W0.heap.size 85 3 v q ((l.flatMap ccL).take (q * 3))):jIns W0 q l c (updL L 9) (updV y 9 v) W':=by
 obtain ⟨h1,h2,h3,h4,h5,h6,h7,h8⟩:=jIns_st _ _ _ _ hb h
 exact ⟨h1,h2,fun _=>rfl,fun _ e=>(by cases e),fun _ _=>ho,h6,h7,h8⟩
theorem jIns_14 {W0 W W' : World} {q:Nat} {l:List Cc} {c:Cc} {L:Nat → Bool} {y:Nat → Value} {a:Option Addr} {e:Nat} (h:jIns W0 q l c L y W) (hb:Below W.heap.size W W') (ho:SlR W' a e 1 (ccL c)):jIns W0 q l c (updL L 14) (updV y 14 (.slice a 1 e)) W':=by
 obtain ⟨h1,h2,h3,h4,h5,h6,h7,h8⟩:=jIns_st _ _ _ _ hb h
 exact ⟨h1,h2,h3,h4,h5,fun _ _=>⟨a,e,rfl,ho⟩,h7,h8⟩
theorem jIns_15 {W0 W W' : World} {q:Nat} {l:List Cc} {c:Cc} {L:Nat → Bool} {y:Nat → Value} {v:Value} (h:jIns W0 q l c L y W) (h15:L 15 = false) (h9:L 9 = true) (hg:W.grownBy W' (y 9).ownBlock) (ho:Own W' W0.heap.size 85 3 v (q + 1) ((l.flatMap ccL).take (q * 3) ++ ccL c)):jIns W0 q l c (updL L 15) (updV y 15 v) W':=by
 obtain ⟨h1,h2,h3,h4,h5,h6,h7,h8⟩:=h
 have h23:L 23 = true → False:=fun e=>by rw [h2 e] at h15; cases h15
 exact ⟨h1.grown hg h1.size (fun k hk=>(h5 h9 h15).ge k hk),fun _=>rfl,fun _=>h9,fun _ e=>(by rw [show updL L 15 9 = L 9 from rfl,h9] at e; cases e),fun _ e=>(by cases e),fun _ e=>(by cases e),fun _ _=>ho,fun e=>(h23 e).elim⟩
theorem jIns_23 {W0 W W' : World} {q:Nat} {l:List Cc} {c:Cc} {L:Nat → Bool} {y:Nat → Value} {v:Value} (h:jIns W0 q l c L y W) (h23:L 23 = false) (h15:L 15 = true) (hg:W.grownBy W' (y 15).ownBlock) (ho:Own W' W0.heap.size 85 3 v (q + 1 + (l.length - q)) (((l.flatMap ccL).take (q * 3) ++ ccL c) ++ (l.flatMap ccL).drop (q * 3))):jIns W0 q l c (updL L 23) (updV y 23 v) W':=by
 obtain ⟨h1,h2,h3,h4,h5,h6,h7,h8⟩:=h
 exact ⟨h1.grown hg h1.size (fun k hk=>(h7 h15 h23).ge k hk),fun _=>h15,h3,fun _ e=>(by rw [show updL L 23 9 = L 9 from rfl,h3 h15] at e; cases e),fun _ e=>(by rw [show updL L 23 15 = L 15 from rfl,h15] at e; cases e),fun _ e=>(by rw [show updL L 23 15 = L 15 from rfl,h15] at e; cases e),fun _ e=>(by cases e),fun _=>ho⟩
structure Kep (S S' : MW):Prop where
 sp:S'.H.sp = S.H.sp
 fi:S'.H.fi = S.H.fi
 ct:S'.H.ct = S.H.ct
 dk:S'.H.dk = S.H.dk
 fl:S'.H.m.fs.length = S.H.m.fs.length
 sl:S'.H.sl.length = S.H.sl.length
theorem Kep.refl (S:MW):Kep S S:=⟨rfl,rfl,rfl,rfl,rfl,rfl⟩
theorem Kep.trans {a b c:MW} (h:Kep a b) (k:Kep b c):Kep a c:=⟨k.sp.trans h.sp,k.fi.trans h.fi,k.ct.trans h.ct,k.dk.trans h.dk,k.fl.trans h.fl,k.sl.trans h.sl⟩
theorem MkO.rdM {w:World} {B b:Nat} {S:MW} (h:MkO w B b S):RdV w (some ⟨b,1,none⟩) (mhC S.H).toList:=blk_part h.blk 1 11
theorem Bd.cas {m:Ma} {T:List (List En)} (h:Bd m T):m.ca.length ≤ 60:=ca_few (m:=fullM m T) h.rt.ca h.rt.pt.st
theorem Bd.fis {m:Ma} {T:List (List En)} (h:Bd m T):∀ f ∈ m.st.fs,f.b.length ≤ 12:=files_few h.rt.pt.st
def jPk (S:MW) (B b:Nat) (w:World) (ks:List (Nat × Array Value × TypeId)):(Nat → Bool) → (Nat → Value) → World → Prop:=fun _ _ W=>
 ∃ a c l,MkO W B b (S.lst a c l) ∧ MS w b S W (S.lst a c l) ∧ ∀ t ∈ ks,Blk W t.1 t.2.1 t.2.2 ∧ ¬ kbM b S t.1
theorem jPk_st {S:MW} {B b:Nat} {w:World} {ks:List (Nat × Array Value × TypeId)}:∀ L y W W',Below W.heap.size W W' → jPk S B b w ks L y W → jPk S B b w ks L y W':=
 fun _ _ _ _ hb ⟨a,c,l,h1,h2,h3⟩=>⟨a,c,l,h1.below hb,h2.below hb,fun t ht=>⟨(h3 t ht).1.ext hb,(h3 t ht).2⟩⟩
theorem jPk_pick {S:MW} {B b:Nat} {w W:World} {ks:List (Nat × Array Value × TypeId)} {L L' : Nat → Bool} {y:Nat → Value} {y' : Value → Nat → Value} (n:Int) (hn : -9223372036854775808 ≤ n ∧ n ≤ 9223372036854775807) (h:jPk S B b w ks L y W) {R:Value → World → Prop} (hR:∀ x:Int,0 ≤ x → x < 256 → (x < n ∨ x = 0) → ∀ W',R (.int .i64 x) W') :
  Calls Try.prog 28 #[.pointer (some ⟨b,0,none⟩),.int .i64 n] W fun e W' => ∃ v,e = .returned v ∧ jPk S B b w ks L' (y' v) W' ∧ R v W':=by
 obtain ⟨a,c,l,h1,h2,h3⟩:=h
 refine (rpick_any _ n B b W h1 hn).mono ?_
 rintro r W' ⟨x,a',c',l',rfl,k1,k2,k3,_⟩
 exact ⟨_,rfl,⟨a',c',l',k1,h2.trans k2,fun t ht=>⟨k2.blkN (h3 t ht).1 (h3 t ht).2,(h3 t ht).2⟩⟩,hR x k3.1 k3.2.1 k3.2.2 W'⟩
theorem jPk_page {S:MW} {B b:Nat} {w W:World} {ks:List (Nat × Array Value × TypeId)} {L L' : Nat → Bool} {y:Nat → Value} {y' : Value → Nat → Value} (h:jPk S B b w ks L y W) {R:Value → World → Prop} (hR:∀ P W',R (.agg (pgC P)) W') :
  Calls Try.prog 31 #[.pointer (some ⟨b,0,none⟩)] W fun e W' => ∃ v,e = .returned v ∧ jPk S B b w ks L' (y' v) W' ∧ R v W':=by
 obtain ⟨a,c,l,h1,h2,h3⟩:=h
 refine (rpage_any _ B b W h1).mono ?_
 rintro r W' ⟨P,a',c',l',rfl,k1,k2⟩
 exact ⟨_,rfl,⟨a',c',l',k1,h2.trans k2,fun t ht=>⟨k2.blkN (h3 t ht).1 (h3 t ht).2,(h3 t ht).2⟩⟩,hR P W'⟩
theorem atC_eq {l:List Cc} {f i:Int} {q:Nat} (hq:q ≤ l.length) (hno:∀ d ∈ l.take q,geC f i d = false) (hy:q = l.length ∨ ∃ c,l[q]? = some c ∧ geC f i c = true):atC l f i = q:=by
 unfold atC
 rcases hy with rfl | ⟨c,hc,hg⟩
 ·rw [List.take_of_length_le (Nat.le_refl _)] at hno
  rw [List.findIdx?_eq_none_iff.2 fun d hd=>hno d hd]; rfl
 ·obtain ⟨hl,rfl⟩:=List.getElem?_eq_some_iff.1 hc
  rw [List.findIdx?_eq_some_iff_getElem.2 ⟨hl,hg,fun j hj=>by
   have:=hno (l[j]'(by omega)) (List.mem_take_iff_getElem.2 ⟨j,by omega,rfl⟩)
   rw [this]; decide⟩]; rfl
def CachedR (S:MW) (f i:Int) (B b:Nat) (w:World) (r:Ending) (w' : World):Prop:=∃ x S',r = .returned (.int .i64 x) ∧ MkO w' B b S' ∧ MS w b S w' S' ∧ Kep S S' ∧ S'.T = S.T ∧ Bd S'.H.ma S'.T ∧ (x = -1 ∨ ∃ c ∈ S'.H.ca,c.f = f ∧ c.i = i ∧ c.k = x)
theorem rcached_any (S:MW) (f i:Int) (B b:Nat) (w:World) (h:MkO w B b S) (hd:Bd S.H.ma S.T) (hi:inF S.H.ma.st f i) :
  Calls Try.prog 107 #[.pointer (some ⟨b,0,none⟩),.int .i64 f,.int .i64 i] w (CachedR S f i B b w):=by
 have z7:S.H.ca.length ≤ 60:=hd.cas
 have hBs:=Lib.hid h.bs
 have hb':=h.lt
 obtain ⟨F,rfl⟩:=Int.eq_ofNat_of_zero_le hi.1.1
 obtain ⟨I,rfl⟩:=Int.eq_ofNat_of_zero_le hi.2.1
 have hFl:F < S.H.fi.length:=by have:=hi.1.2; simp [MH.ma,stOf] at this; omega
 have hFi:(F:Int) < (S.H.fi.length:Int):=by omega
 have hlim:=inF_lt hd.few.2.2.2.2.1 hi
 have hF5:(F:Int) < 5:=hlim.1
 have hI12:(I:Int) < 12:=hlim.2.1
 obtain ⟨N,hN⟩:∃ N,(fileAt S.H.ma.st (F:Int)).n = N:=⟨_,rfl⟩
 obtain ⟨p,hp⟩:∃ p,S.H.fi[F]? = some p:=⟨_,List.getElem?_eq_getElem hFl⟩
 have hpn:p.n = N:=by
  rw [← hN]
  have:fileAt S.H.ma.st (F:Int) = p.fi:=fileAt_nat (by show (S.H.fi.map PF.fi)[F]? = _; rw [List.getElem?_map,hp]; rfl)
  rw [this]; rfl
 have hp':=Lib.hid hp
 have hN':=Lib.hid hN
 have hpn':=Lib.hid hpn
 have hd':=Lib.hid hd
 have hi':=Lib.hid hi
 clear hd hi hp hN hpn hlim
 go_enter Try.func107,Try.ntmps107
 have hc:=h.blk.cell
 unfold mkC at hc
 go_upto_region 2 with (fail)
 clear hc
 go_loopw [20] (fun k wr => ∃ q:Nat,q ≤ S.H.ca.length ∧ k = .int .i64 q ∧ Below w.heap.size w wr ∧ Hid (∀ d ∈ S.H.ca.take q,¬ (d.f = (F:Int) ∧ d.i = (I:Int)))) (fun k _=>S.H.ca.length - (intOf k).toNat)
 case atStart=>exact ⟨0,Nat.zero_le _,rfl,Below.refl _ _,Lib.hid (by simp)⟩
 case round=>
  obtain ⟨q,hq,rfl,hbr,hno⟩:=hrel
  by_cases hql:q < S.H.ca.length
  ·obtain ⟨bc,oc,hca,hrd⟩:=cc_elem (h.ma.rd.below hbr).ca.rd q hql
   obtain ⟨c,hc⟩:∃ c,S.H.ca[q]? = some c:=⟨_,List.getElem?_eq_getElem hql⟩
   rw [show S.H.ca[q] = c from (List.getElem?_eq_some_iff.1 hc).2] at hrd
   have hqi:(q:Int) < (S.H.ca.length:Int):=by omega
   have hc':=Lib.hid hc
   clear hc
   rw [hca]
   go_wp2_with (first | (refine wpList_ldg _ _ rfl bc (oc + q * 3) rfl rfl _ hrd _ Try.underlying85 rfl cached_size ?_) | (refine wpList_stn rfl _ _ _ rfl (ccC c) rfl rfl rfl cached_size (ccC_one c) ?_))
   intro w3 hb3 cx3
   have hbr3:=below_next hbr hb3
   have hcx:=cx3.cell
   have hl3:=cx3.lt
   clear hbr hb3 hrd
   unfold ccC at hcx
   by_cases hy:c.f = (F:Int) ∧ c.i = (I:Int)
   ·obtain ⟨hy1,hy2⟩:=hy
    rw [hy1,hy2] at hcx
    go_wp2
    go_ret
    exact ⟨c.k,S,rfl,h.below hbr3,(MS.refl w b S).below hbr3,.refl _,rfl,hd'.out,.inr ⟨c,List.mem_of_getElem? hc'.out,hy1,hy2,rfl⟩⟩
   ·have hno' : Hid (∀ d ∈ S.H.ca.take (q + 1),¬ (d.f = (F:Int) ∧ d.i = (I:Int))):=Lib.hid fun d hd=>by
     rw [take_at hc'.out] at hd
     rcases List.mem_append.1 hd with hd | hd
     ·exact hno.out d hd
     ·rw [List.mem_singleton.1 hd]; exact hy
    by_cases hy1:c.f = (F:Int)
    ·have hy2:¬ c.i = (I:Int):=fun e=>hy ⟨hy1,e⟩
     clear hy
     go_wp2
     go_roundw
     case rel=>exact ⟨q + 1,by omega,by go_num,hbr3,hno'⟩
     case measure=>simp [intOf]; omega
    ·clear hy
     go_wp2
     go_roundw
     case rel=>exact ⟨q + 1,by omega,by go_num,hbr3,hno'⟩
     case measure=>simp [intOf]; omega
  ·have hqi:¬ (q:Int) < (S.H.ca.length:Int):=by omega
   rw [List.take_of_length_le (by omega)] at hno
   have h1:=h.below hbr
   have s1:=(MS.refl w b S).below hbr
   have hn0:=Lib.hid (h1.new (Nat.le_refl _))
   have hc:=h1.blk.cell
   unfold mkC at hc
   go_wp2_with (refine wpList_ldg _ _ rfl b 1 rfl rfl _ h1.rdM _ Try.underlying40 rfl machine_size ?_)
   refine (rcontent_any S.H F I _ h1.ma.rd ⟨by omega,fun f hf=>Nat.le_trans (hd'.out.fis f hf) (by decide)⟩ (fun c hc=>hd'.out.rt.ca.lt c hc) (by have:=hi'.out.1; simpa [MH.ma,stOf] using this) hi'.out.2).mono ?_
   rintro r w2 ⟨rfl,hb2⟩
   have hP:Hid (cutPage (contentP S.H.ma F I) (N - (I:Int) * 8) = contentP S.H.ma F I ∧ contentP S.H.ma F I = diskP S.H.ma F I):=Lib.hid (by
    have e:contentP S.H.ma F I = diskP S.H.ma F I:=by
     unfold contentP diskP
     rw [show S.H.ma.ca.find? (fun c=>decide (c.f = (F:Int)) && decide (c.i = (I:Int))) = none from find_noneC hno.out]
    exact ⟨by rw [e,← hN'.out]; exact disk_tail _ _ _,e⟩)
   generalize contentP S.H.ma F I = P at hP
   have h2:=h1.below hb2
   have s2:=s1.below hb2
   clear h1 s1 hc hb2 h hbr
   go_wp2_with (refine wpList_stn rfl _ _ _ rfl (pgC P) rfl rfl rfl psize (pgC_one P) ?_)
   intro w3 hb3 px3
   have h3:=h2.below hb3
   have s3:=s2.below hb3
   have hnp:=Lib.hid (h2.new (Nat.le_refl _))
   have hp0:=Lib.hid s2.size
   have hp1:w2.heap.size < w3.heap.size:=px3.lt
   have hpB:B ≤ w2.heap.size:=Nat.le_trans hBs.out hp0.out
   clear h2 s2 hb3
   generalize hp4:w2.heap.size = p4 at *
   clear hp4
   go_wp2_with fail
   refine (rpick_any _ 2 B b _ h3 (by omega)).mono ?_
   rintro r w4 ⟨x,a4,c4,l4,rfl,h4,s4,hx,_⟩
   have px4:=s4.blkN px3 hnp.out
   have s4:=s3.trans s4
   clear h3 s3 px3 hx hp1
   go_upto_if 46 with (fail)
   go_cut [10] (fun s10 wx => ∃ (d:Bool) (a:Option Addr) (c:Nat) (l:List UInt8) (P:Page),s10 = .bool d ∧ MkO wx B b (S.lst a c l) ∧ MS w b S wx (S.lst a c l) ∧ Blk wx p4 (pgC P) 50 ∧ Hid (cutPage P (N - (I:Int) * 8) = P ∧ (d = false → P = diskP S.H.ma F I)))
   case first=>
    by_cases hx1:x = 1
    ·subst hx1
     go_wp2_with fail
     refine (rpage_any _ B b _ h4).mono ?_
     rintro r w5 ⟨P2,a5,c5,l5,rfl,h5,s5⟩
     rw [lst_two] at h5 s5
     have px5:=s5.blkN px4 hnp.out
     have s5:=s4.trans s5
     clear h4 s4 px4 hP
     go_wp2_with (refine wpList_stw rfl _ _ _ rfl p4 (pgC P2) rfl rfl _ _ px5 rfl psize (pgC_one _) ?_)
     intro w6 px6 hg6
     have h6:=h5.locT px5 (by decide) hnp.out hpB hg6
     have s6:=s5.loc hg6 hp0.out
     clear h5 s5 px5 hg6
     go_upto_region 11 with (fail)
     go_loopw [49] (fun j wr => ∃ k:Nat,k ≤ 8 ∧ j = .int .i64 k ∧ MkO wr B b (S.lst a5 c5 l5) ∧ MS w b S wr (S.lst a5 c5 l5) ∧ Blk wr p4 (pgC (cutTo P2 (N - (I:Int) * 8) k)) 50) (fun j _=>8 - (intOf j).toNat)
     case atStart=>exact ⟨0,by omega,rfl,h6,s6,by rw [show cutTo P2 (N - (I:Int) * 8) 0 = P2 from by ext j hj; simp [cutTo]]; exact px6⟩
     case round=>
      clear h6 s6 px6
      obtain ⟨k,hk,rfl,hm,hs,px⟩:=hrel
      by_cases hk8:k < 8
      ·have hki:(k:Int) < 8:=by omega
       have hcx:=hm.blk.cell
       unfold mkC at hcx
       dsimp only [MW.lst] at hcx
       obtain ⟨bf,of,hai,hrd⟩:=elemR pfL_len (by decide) hm.ma.rd.st.rd F hFl
       dsimp only [MW.lst] at hai hrd
       rw [show S.H.fi[F] = p from (List.getElem?_eq_some_iff.1 hp'.out).2] at hrd
       rw [hai] at hcx
       have rc0:wr.cell? ⟨bf,of + F * 2,none⟩ = some (.int .i64 N):=by
        rw [← hpn'.out]
        obtain ⟨b',o',e,hcc⟩:=hrd 0 _ rfl
        cases e
        exact hcc
       clear hrd hai
       have hw1:IntKind.i64.wrap (8 * (I:Int)) = 8 * (I:Int):=IntWalk.i64_in _ (by omega)
       have hw2:IntKind.i64.wrap (8 * (I:Int) + (k:Int)) = 8 * (I:Int) + (k:Int):=IntWalk.i64_in _ (by omega)
       by_cases hge:N ≤ 8 * (I:Int) + k
       ·have hset:Hid ((pgC (cutTo P2 (N - (I:Int) * 8) k)).setIfInBounds k (.int .u8 0) = pgC (cutTo P2 (N - (I:Int) * 8) (k + 1))):=Lib.hid (by
         rw [← cutTo_set P2 _ k hk8 (by omega)]; exact pgC_set _ k hk8 0)
        generalize hT:cutTo P2 (N - (I:Int) * 8) k = T at px hset
        clear hT
        go_wp2_with (refine wpList_stv rfl _ _ _ rfl p4 k _ [.int .u8 0] rfl rfl rfl _ _ px (by show k + 1 ≤ 8; omega) (by kernel_rfl) (fun u hu=>by cases List.mem_singleton.1 hu; rfl) ?_)
        intro w7 px7 hg7
        rw [putAt_one,hset.out] at px7
        have hm7:=hm.locT px (by decide) hnp.out hpB hg7
        have hs7:=hs.loc hg7 hp0.out
        clear hm hs px hg7 hcx rc0
        go_wp2
        go_roundw
        case rel=>exact ⟨k + 1,by omega,by go_num,hm7,hs7,px7⟩
        case measure=>simp [intOf]; omega
       ·have hset:cutTo P2 (N - (I:Int) * 8) k = cutTo P2 (N - (I:Int) * 8) (k + 1):=by
         ext j hj
         simp only [cutTo,Vector.getElem_ofFn]
         by_cases e:N - (I:Int) * 8 ≤ (j:Int)
         ·rw [if_neg (by omega),if_neg (by omega)]
         ·rw [if_neg (by omega),if_neg (by omega)]
        rw [hset] at px
        clear hset
        go_wp2
        go_roundw
        case rel=>exact ⟨k + 1,by omega,by go_num,hm,hs,px⟩
        case measure=>simp [intOf]; omega
      ·have hki:¬ (k:Int) < 8:=by omega
       rw [cutTo_end _ _ k (by omega)] at px
       have hC:Hid (cutPage (cutPage P2 (N - (I:Int) * 8)) (N - (I:Int) * 8) = cutPage P2 (N - (I:Int) * 8)):=Lib.hid (cut_cut _ _)
       generalize cutPage P2 (N - (I:Int) * 8) = C at px hC
       go_wp2
       go_meet
       case rel=>exact ⟨true,a5,c5,l5,C,rfl,hm,hs,px,Lib.hid ⟨hC.out,fun h=>(by cases h)⟩⟩
    ·go_wp2
     go_meet
     case rel=>exact ⟨false,a4,c4,l4,P,rfl,h4,s4,px4,Lib.hid ⟨hP.out.1,fun _=>hP.out.2⟩⟩
   case rest=>
    obtain ⟨d,a5,c5,l5,P2,rfl,h5,s5,px5,hP2⟩:=hcut
    clear h4 s4 px4 hP
    go_upto_region 16 with (fail)
    refine wp_growPQ 9 [.v (.pointer (some ⟨b,0,none⟩)),.v (.agg (pgC P2)),_,.r 3 ((fixR fun v => ∃ x:Int,v = .int .i64 x ∧ 0 ≤ x)),.r 4 ((fixR fun v => ∃ u,v = .bool u)),_,_,_,.r 8 ((fixR fun v => ∃ u,v = .agg (frC ⟨P2,1,u,d,(F:Int),(I:Int)⟩)))] (jPk S B b w [(p4,pgC P2,50)]) jPk_st (fun _=>⟨a5,c5,l5,h5,s5,by simpa using ⟨px5,hnp.out⟩⟩) (Qk jPk_st rfl (all_cons ?_ (Qk jPk_st rfl (all_cons ?_ (all_cons ?_ (Qk jPk_st rfl (Qk jPk_st rfl (Qk jPk_st rfl (all_cons ?_ (all_nil)))))))))) (fun _=>rfl) rfl ?_
    ·intro ρ y W L hw hn hLi hLd hb hd
     refine askQ jPk_st (fun _ _ h=>h) hb ?_
     have E9:ρ (.tmp 9) = .pointer (some ⟨p4,0,none⟩):=(hn (.tmp 9) rfl).trans rfl
     obtain ⟨a,c,l,m1,m2,m3⟩:=hb
     have m3:=(m3 _ (List.mem_singleton.2 rfl)).1
     refine asked_val (.agg (pgC P2)) (want_free rfl) (run_load_blk rfl E9 m3 Try.underlying50 rfl psize) rfl
    ·intro ρ y W L hw hn hLi hLd hb hd; have E72:=hw 72 2 rfl; have h2:y 2 = _:=hd 2 rfl
     have EC:∀ v,ρ (.const v) = v:=fun v=>hn (.const v) trivial
     have EF:∀ f,ρ (.func f) = .func (.func f) #[] #[]:=fun f=>hn (.func f) trivial
     refine asked_callQ _ _ (want_free rfl) (run_call rfl (EF _) Try.func28 (by kernel_rfl) (by kernel_rfl) (by simp only [List.map_toArray,List.map_cons,List.map_nil,E72,h2,EC,EF]; rfl)) ?_
     exact jPk_pick 2 (by omega) hb fun x h1 _ _ _=>⟨x,rfl,h1⟩
    ·intro ρ y W L hw hn hLi hLd hb hd
     refine askQ jPk_st (fun _ _ h=>h) hb ?_
     have E73:=hw 73 3 rfl
     have h3:=hd 3 rfl
     obtain ⟨x,hx,_⟩:=h3
     refine asked_val _ (want_free rfl) (run_bin rfl (E73.trans hx) (hn (.const _) trivial) (by simp [go_sem]; rfl)) ⟨_,rfl⟩
    ·intro ρ y W L hw hn hLi hLd hb hd
     refine askQ jPk_st (fun _ _ h=>h) hb ?_
     have E71:=hw 71 1 rfl
     have h1:y 1 = _:=hd 1 rfl
     have E74:=hw 74 4 rfl
     have h4:=hd 4 rfl
     have E75:=hw 75 5 rfl
     have h5:y 5 = _:=hd 5 rfl
     have E76:=hw 76 6 rfl
     have h6:y 6 = _:=hd 6 rfl
     have E77:=hw 77 7 rfl
     have h7:y 7 = _:=hd 7 rfl
     obtain ⟨u,hu⟩:=h4
     have EC:∀ v,ρ (.const v) = v:=fun v=>hn (.const v) trivial
     refine asked_val (.agg (frC ⟨P2,1,u,d,(F:Int),(I:Int)⟩)) (want_free rfl) (by simp [execOp,go_sem,E71,h1,E74,E75,h5,E76,h6,E77,h7,EC,hu,pgC,frC]) ⟨_,rfl⟩
    intro y W5 hbW5 hRW5
    have hy3:((fixR fun v => ∃ x:Int,v = .int .i64 x ∧ 0 ≤ x)).r (y 3) W5:=hRW5 3 (by decide)
    have hy4:((fixR fun v => ∃ u,v = .bool u)).r (y 4) W5:=hRW5 4 (by decide)
    have hy8:((fixR fun v => ∃ u,v = .agg (frC ⟨P2,1,u,d,(F:Int),(I:Int)⟩))).r (y 8) W5:=hRW5 8 (by decide)
    clear hRW5
    obtain ⟨a6,c6,l6,h6,s6,px6⟩:=hbW5
    have px6:=(px6 _ (List.mem_singleton.2 rfl)).1
    obtain ⟨u,hu⟩:=hy8
    rw [hu]
    clear hu h5 s5 px5
    go_wp2_with fail
    refine (rframe_any _ _ B b _ h6 (by have:=hd'.out.few.1; show S.H.m.fs.length ≤ 1000; have e:S.H.ma.m.fs.length = S.H.m.fs.length:=rfl; omega)).mono ?_
    rintro r w7 ⟨x7,a7,c7,l7,fs,rfl,h7,s7,hx7⟩
    rw [lst_two] at h7 s7
    have s7:=s6.trans s7
    clear h6 s6 px6
    rcases hx7 with ⟨rfl,rfl⟩ | ⟨j,rfl,hj,hjr,rfl⟩
    ·go_wp2
     go_ret
     exact ⟨-1,_,rfl,h7,s7,⟨rfl,rfl,rfl,rfl,rfl,rfl⟩,rfl,hd'.out,.inl rfl⟩
    ·have hj' : j < S.H.m.fs.length:=hj
     have hjr':=Lib.hid hjr
     have hj0:(0:Int) ≤ (j:Int):=by omega
     clear hj hjr
     go_upto_region 20 with (fail)
     go_loopw [13] (fun k wr => ∃ q:Nat,q ≤ S.H.ca.length ∧ k = .int .i64 q ∧ Below w7.heap.size w7 wr ∧ Hid (∀ d ∈ S.H.ca.take q,geC F I d = false)) (fun k _=>S.H.ca.length - (intOf k).toNat)
     case atStart=>exact ⟨0,Nat.zero_le _,rfl,Below.refl _ _,Lib.hid (by simp)⟩
     case round=>
      obtain ⟨q,hq,rfl,hb7,hno7⟩:=hrel
      have hm8:=h7.below hb7
      have hwc:IntKind.i64.wrap (100 * (F:Int)) = 100 * (F:Int):=IntWalk.i64_in _ (by omega)
      have hwd:IntKind.i64.wrap (100 * (F:Int) + (I:Int)) = 100 * (F:Int) + (I:Int):=IntWalk.i64_in _ (by omega)
      by_cases hql:q < S.H.ca.length
      ·obtain ⟨bc,oc,hca,hrd⟩:=cc_elem hm8.ma.rd.ca.rd q hql
       have hca:S.H.ac = some ⟨bc,oc,none⟩:=hca
       obtain ⟨c,hc⟩:∃ c,S.H.ca[q]? = some c:=⟨_,List.getElem?_eq_getElem hql⟩
       have hrd:RdV wr (some ⟨bc,oc + q * 3,none⟩) (ccL c):=by rw [← (List.getElem?_eq_some_iff.1 hc).2]; exact hrd
       have hqi:(q:Int) < (S.H.ca.length:Int):=by omega
       have hcl:=hd'.out.rt.ca.file c (List.mem_of_getElem? hc)
       have hcl2:=inF_lt hd'.out.few.2.2.2.2.1 hcl
       have hcl1:0 ≤ c.f ∧ 0 ≤ c.i:=⟨hcl.1.1,hcl.2.1⟩
       have hwa:IntKind.i64.wrap (100 * c.f) = 100 * c.f:=IntWalk.i64_in _ (by omega)
       have hwb:IntKind.i64.wrap (100 * c.f + c.i) = 100 * c.f + c.i:=IntWalk.i64_in _ (by omega)
       have hq0:∀ W,Below wr.heap.size wr W → W.cell? ⟨bc,oc + q * 3,none⟩ = some (.int .i64 c.f):=fun W hb=>by
        obtain ⟨b',o',e,hcc⟩:=(hrd.below hb) 0 _ rfl
        cases e
        exact hcc
       have hq1:∀ W,Below wr.heap.size wr W → W.cell? ⟨bc,oc + q * 3 + 1,none⟩ = some (.int .i64 c.i):=fun W hb=>by
        obtain ⟨b',o',e,hcc⟩:=(hrd.below hb) 1 _ rfl
        cases e
        exact hcc
       have hgc:Hid (geC F I c = true ↔ ¬ 100 * c.f + c.i < 100 * (F:Int) + (I:Int)):=Lib.hid (by
        rw [geC_iff]
        omega)
       by_cases hlt:100 * c.f + c.i < 100 * (F:Int) + (I:Int)
       ·skip
        go_upto_region 20 with (fail)
        refine wp_growP 35 [_,_,_,_,_,_,_,_,_,_,_,_,_,_,_,_,_,_,_,_,_,_,_,_,_,_,_,_,_,_,_,_,_,_,.v (.bool true)] (Gk rfl (Gk rfl (Gk rfl (Gf b 1 rfl rfl (Gf b 10 rfl rfl (Gl hm8.blk (V:=.slice S.H.ac S.H.ca.length S.H.cc) (by simp [mkC,MW.frs,MW.lst]) rfl rfl rfl rfl (Gn rfl rfl rfl rfl (Gb (.bool true) (by simp [go_sem,hqi,hql]) rfl rfl rfl rfl rfl (Gk rfl (Gk rfl (Gk rfl (Gf b 1 rfl rfl (Gf b 10 rfl rfl (Gl hm8.blk (V:=.slice (some ⟨bc,oc,none⟩) S.H.ca.length S.H.cc) (by simp [mkC,MW.frs,MW.lst,hca]) rfl rfl rfl rfl (Gk rfl (Gr (.pointer (some ⟨bc,oc + q * 3,none⟩)) (fun ρ y W hb hk=>(run_idx rfl (kx_at rfl hk) (kx_at rfl hk) hql Try.underlying37 cached_size)) rfl rfl (Gf bc (oc + q * 3) rfl rfl (Gc (.int .i64 c.f) (fun W hb=>by simp [hq0 _ hb]) rfl rfl rfl rfl (Gb (.int .i64 (100 * c.f)) (by simp [go_sem,hwa]) rfl rfl rfl rfl rfl (Gk rfl (Gk rfl (Gf b 1 rfl rfl (Gf b 10 rfl rfl (Gl hm8.blk (V:=.slice (some ⟨bc,oc,none⟩) S.H.ca.length S.H.cc) (by simp [mkC,MW.frs,MW.lst,hca]) rfl rfl rfl rfl (Gk rfl (Gr (.pointer (some ⟨bc,oc + q * 3,none⟩)) (fun ρ y W hb hk=>(run_idx rfl (kx_at rfl hk) (kx_at rfl hk) hql Try.underlying37 cached_size)) rfl rfl (Gf bc (oc + q * 3 + 1) rfl rfl (Gc (.int .i64 c.i) (fun W hb=>by simp [hq1 _ hb]) rfl rfl rfl rfl (Gb (.int .i64 (100 * c.f + c.i)) (by simp [go_sem,hwb]) rfl rfl rfl rfl rfl (Gk rfl (Gb (.int .i64 (100 * (F:Int))) (by simp [go_sem,hwc]) rfl rfl rfl rfl rfl (Gk rfl (Gb (.int .i64 (100 * (F:Int) + (I:Int))) (by simp [go_sem,hwd]) rfl rfl rfl rfl rfl (Gb (.bool true) (by simp [go_sem,hlt]) rfl rfl rfl rfl rfl (Gk rfl (all_nil)))))))))))))))))))))))))))))))))))) (fun _=>rfl) rfl ?_
        intro y W8 hbW8 _
        have hno8:Hid (∀ d ∈ S.H.ca.take (q + 1),geC F I d = false):=Lib.hid fun d hd=>by
         rw [take_at hc] at hd
         rcases List.mem_append.1 hd with hd | hd
         ·exact hno7.out d hd
         ·rw [List.mem_singleton.1 hd]
          cases hg:geC F I c with
          | false=>rfl
          | true=>exact absurd hlt (hgc.out.1 hg)
        have hb8:=below_next hb7 hbW8
        clear hbW8 hc hca hrd hq0 hq1 hgc hno7 hm8
        go_wp2
        go_roundw
        case rel=>exact ⟨q + 1,by omega,by go_num,hb8,hno8⟩
        case measure=>simp [intOf]; omega
       ·skip
        go_upto_region 20 with (fail)
        refine wp_growP 35 [_,_,_,_,_,_,_,_,_,_,_,_,_,_,_,_,_,_,_,_,_,_,_,_,_,_,_,_,_,_,_,_,_,_,.v (.bool false)] (Gk rfl (Gk rfl (Gk rfl (Gf b 1 rfl rfl (Gf b 10 rfl rfl (Gl hm8.blk (V:=.slice S.H.ac S.H.ca.length S.H.cc) (by simp [mkC,MW.frs,MW.lst]) rfl rfl rfl rfl (Gn rfl rfl rfl rfl (Gb (.bool true) (by simp [go_sem,hqi,hql]) rfl rfl rfl rfl rfl (Gk rfl (Gk rfl (Gk rfl (Gf b 1 rfl rfl (Gf b 10 rfl rfl (Gl hm8.blk (V:=.slice (some ⟨bc,oc,none⟩) S.H.ca.length S.H.cc) (by simp [mkC,MW.frs,MW.lst,hca]) rfl rfl rfl rfl (Gk rfl (Gr (.pointer (some ⟨bc,oc + q * 3,none⟩)) (fun ρ y W hb hk=>(run_idx rfl (kx_at rfl hk) (kx_at rfl hk) hql Try.underlying37 cached_size)) rfl rfl (Gf bc (oc + q * 3) rfl rfl (Gc (.int .i64 c.f) (fun W hb=>by simp [hq0 _ hb]) rfl rfl rfl rfl (Gb (.int .i64 (100 * c.f)) (by simp [go_sem,hwa]) rfl rfl rfl rfl rfl (Gk rfl (Gk rfl (Gf b 1 rfl rfl (Gf b 10 rfl rfl (Gl hm8.blk (V:=.slice (some ⟨bc,oc,none⟩) S.H.ca.length S.H.cc) (by simp [mkC,MW.frs,MW.lst,hca]) rfl rfl rfl rfl (Gk rfl (Gr (.pointer (some ⟨bc,oc + q * 3,none⟩)) (fun ρ y W hb hk=>(run_idx rfl (kx_at rfl hk) (kx_at rfl hk) hql Try.underlying37 cached_size)) rfl rfl (Gf bc (oc + q * 3 + 1) rfl rfl (Gc (.int .i64 c.i) (fun W hb=>by simp [hq1 _ hb]) rfl rfl rfl rfl (Gb (.int .i64 (100 * c.f + c.i)) (by simp [go_sem,hwb]) rfl rfl rfl rfl rfl (Gk rfl (Gb (.int .i64 (100 * (F:Int))) (by simp [go_sem,hwc]) rfl rfl rfl rfl rfl (Gk rfl (Gb (.int .i64 (100 * (F:Int) + (I:Int))) (by simp [go_sem,hwd]) rfl rfl rfl rfl rfl (Gb (.bool false) (by simp [go_sem,hlt]) rfl rfl rfl rfl rfl (Gk rfl (all_nil)))))))))))))))))))))))))))))))))))) (fun _=>rfl) rfl ?_
        intro y W8 hbW8 _
        have hat:Hid (atC S.H.ca F I = q):=Lib.hid (atC_eq hq hno7.out (.inr ⟨c,hc,hgc.out.2 hlt⟩))
        clear hc hca hrd hq0 hq1 hgc
        have hb8:=below_next hb7 hbW8
        have hm9:=h7.below hb8
        have s9:=s7.below hb8
        clear hbW8 hm8 hno7
        go_upto_region 22 with (fail)
        have sC:SlR W8 S.H.ac S.H.cc S.H.ca.length (S.H.ca.flatMap ccL):=hm9.ma.rd.ca
        have sT:=sC.take (sz:=3) hq
        have hcl60:S.H.ca.length ≤ 60:=z7
        have tlen:((S.H.ca.flatMap ccL).take (q * 3)).length = q * 3:=by rw [List.length_take,ccs_len]; omega
        have dlen:((S.H.ca.flatMap ccL).drop (q * 3)).length = (S.H.ca.length - q) * 3:=by rw [List.length_drop,ccs_len]; omega
        refine wp_growPQ 27 [_,.r 1 ((fixR fun _=>True)),_,_,_,_,.v (.slice S.H.ac S.H.ca.length S.H.cc),_,_,.r 9 ((fixR fun _=>True)),_,_,_,.v (.agg #[.int .i64 (F:Int),.int .i64 (I:Int),.int .i64 (j:Int)]),.r 14 ((fixR fun _=>True)),.r 15 ((fixR fun _=>True)),_,_,_,_,.v (.slice S.H.ac S.H.ca.length S.H.cc),_,.r 22 ((fixR fun v => ∃ a e,v = .slice a (S.H.ca.length - q) e ∧ SlR W8 a e (S.H.ca.length - q) ((S.H.ca.flatMap ccL).drop (q * 3)))),.r 23 ((fixR fun _=>True)),_,_,_] (jIns W8 q S.H.ca ⟨(F:Int),(I:Int),(j:Int)⟩) jIns_st (fun y=>jIns_0 y) (Qk jIns_st rfl (all_cons ?_ (Qk jIns_st rfl (Qk jIns_st rfl (Qf jIns_st b 1 rfl rfl (Qf jIns_st b 10 rfl rfl (all_cons ?_ (Qk jIns_st rfl (Qr jIns_st (.slice S.H.ac q S.H.cc) (fun ρ y W hk=>(run_take (W0:=W8) rfl (kx_at rfl hk) (kx_at rfl hk) hq Try.underlying37 cached_size sC).1) rfl rfl (all_cons ?_ (Qk jIns_st rfl (Qk jIns_st rfl (Qk jIns_st rfl (all_cons ?_ (all_cons ?_ (all_cons ?_ (Qk jIns_st rfl (Qk jIns_st rfl (Qf jIns_st b 1 rfl rfl (Qf jIns_st b 10 rfl rfl (all_cons ?_ (Qk jIns_st rfl (all_cons ?_ (all_cons ?_ (Qk jIns_st rfl (Qf jIns_st b 1 rfl rfl (Qf jIns_st b 10 rfl rfl (all_nil)))))))))))))))))))))))))))) (fun _=>rfl) rfl ?_
        ·intro ρ y W L hw hn hLi hLd hb hd
         refine asked_runQ (.slice (some ⟨W.heap.size,0,none⟩) 0 0) (want_free rfl) ?_ (jIns_1 hb) trivial
         simp [execOp,go_sem]
        ·intro ρ y W L hw hn hLi hLd hb hd
         refine askQ jIns_st (fun _ _ h=>h) hb ?_
         have E124:=hw 124 5 rfl
         have h5:y 5 = _:=hd 5 rfl
         refine asked_val (.slice S.H.ac S.H.ca.length S.H.cc) (want_free rfl) (by simp [execOp,go_sem,E124,h5,(hm9.below hb.1).blk.cell,mkC,MW.frs,MW.lst]) rfl
        ·intro ρ y W L hw hn hLi hLd hb hd; have E120:=hw 120 1 rfl; have h1:=hd 1 rfl; have E127:=hw 127 8 rfl; have h8:y 8 = _:=hd 8 rfl
         obtain ⟨g,hg1,hg2⟩:=hb.2.2.2.1 (hLd 1 rfl) hLi
         refine asked_appQ (want_free rfl) (run_app0 _ _ _ rfl W8.heap.size 85 (.agg #[.int .i64 0,.int .i64 0,.int .i64 0]) 3 24 Try.underlying37 cached_info rfl (by decide) g (E120.trans hg1) hg2 S.H.ac q S.H.cc _ (E127.trans h8) sT.nl sT.le tlen (sT.below hb.1).rd (by unfold maxLen; omega) (by omega) hb.1.size) (fun v W1 h=>jIns_9 hb h.1 h.2) (fun _ _ _=>trivial)
        ·intro ρ y W L hw hn hLi hLd hb hd
         refine askQ jIns_st (fun _ _ h=>h) hb ?_
         have E129:=hw 129 10 rfl
         have h10:y 10 = _:=hd 10 rfl
         have E130:=hw 130 11 rfl
         have h11:y 11 = _:=hd 11 rfl
         have E131:=hw 131 12 rfl
         have h12:y 12 = _:=hd 12 rfl
         refine asked_val (.agg #[.int .i64 (F:Int),.int .i64 (I:Int),.int .i64 (j:Int)]) (want_free rfl) (by simp [execOp,go_sem,E129,h10,E130,h11,E131,h12]) rfl
        ·intro ρ y W L hw hn hLi hLd hb hd; have E132:=hw 132 13 rfl; have h13:y 13 = _:=hd 13 rfl
         refine asked_runQ (.slice (some ⟨W.heap.size,0,none⟩) 1 1) (want_free rfl) ?_ (jIns_14 (W':=W.alloc (.cells (ccC ⟨(F:Int),(I:Int),(j:Int)⟩) 85)) hb ((Below.refl _ _).alloc (Nat.le_refl _) _) ⟨Nat.le_refl _,by unfold maxLen; omega,fun e=>(by cases e),RdV.new _ _ _⟩) trivial
         simp [execOp,go_sem,E132.trans h13,ccC]
        ·intro ρ y W L hw hn hLi hLd hb hd; have E128:=hw 128 9 rfl; have h9:=hd 9 rfl; have E133:=hw 133 14 rfl; have h14:=hd 14 rfl
         obtain ⟨a,e,hx1,hx2⟩:=hb.2.2.2.2.2.1 (hLd 14 rfl) hLi
         have hv:=hb.2.2.2.2.1 (hLd 9 rfl) hLi
         refine asked_appQ (want_free rfl) (run_app _ _ _ rfl W8.heap.size 85 (.agg #[.int .i64 0,.int .i64 0,.int .i64 0]) 3 24 Try.underlying37 cached_info rfl (by decide) (y 9) q _ E128 hv a 1 e _ (E133.trans hx1) hx2.nl hx2.le rfl hx2.rd (ccL_one _) (by unfold maxLen; omega) (by omega) hb.1.size) (fun v W1 h=>jIns_15 hb hLi (hLd 9 rfl) h.2.1 h.1) (fun _ _ _=>trivial)
        ·intro ρ y W L hw hn hLi hLd hb hd
         refine askQ jIns_st (fun _ _ h=>h) hb ?_
         have E138:=hw 138 19 rfl
         have h19:y 19 = _:=hd 19 rfl
         refine asked_val (.slice S.H.ac S.H.ca.length S.H.cc) (want_free rfl) (by simp [execOp,go_sem,E138,h19,(hm9.below hb.1).blk.cell,mkC,MW.frs,MW.lst]) rfl
        ·intro ρ y W L hw hn hLi hLd hb hd
         refine askQ jIns_st (fun _ _ h=>h) hb ?_
         have E139:=hw 139 20 rfl
         have h20:y 20 = _:=hd 20 rfl
         have E140:=hw 140 21 rfl
         have h21:y 21 = _:=hd 21 rfl
         exact asked_ex (want_free rfl) (run_drop (W0:=W8) rfl (E139.trans h20) (E140.trans h21) hq Try.underlying37 cached_size (ccs_len _) sC) (fun _ h=>h)
        ·intro ρ y W L hw hn hLi hLd hb hd; have E134:=hw 134 15 rfl; have h15:=hd 15 rfl; have E141:=hw 141 22 rfl; have h22:=hd 22 rfl
         obtain ⟨a,e,hx1,hx2⟩:=h22
         have hv:=hb.2.2.2.2.2.2.1 (hLd 15 rfl) hLi
         refine asked_appQ (want_free rfl) (run_app _ _ _ rfl W8.heap.size 85 (.agg #[.int .i64 0,.int .i64 0,.int .i64 0]) 3 24 Try.underlying37 cached_info rfl (by decide) (y 15) (q + 1) _ E134 hv a (S.H.ca.length - q) e _ (E141.trans hx1) hx2.nl hx2.le dlen (hx2.below hb.1).rd (fun u hu=>ccs_one _ u (List.mem_of_mem_drop hu)) (by unfold maxLen; omega) (by omega) hb.1.size) (fun v W1 h=>jIns_23 hb hLi (hLd 15 rfl) h.2.1 h.1) (fun _ _ _=>trivial)
        intro y W9 hbW9 hRW9
        have hy1:((fixR fun _=>True)).r (y 1) W9:=hRW9 1 (by decide)
        have hy9:((fixR fun _=>True)).r (y 9) W9:=hRW9 9 (by decide)
        have hy14:((fixR fun _=>True)).r (y 14) W9:=hRW9 14 (by decide)
        have hy15:((fixR fun _=>True)).r (y 15) W9:=hRW9 15 (by decide)
        have hy22:((fixR fun v => ∃ a e,v = .slice a (S.H.ca.length - q) e ∧ SlR W8 a e (S.H.ca.length - q) ((S.H.ca.flatMap ccL).drop (q * 3)))).r (y 22) W9:=hRW9 22 (by decide)
        have hy23:((fixR fun _=>True)).r (y 23) W9:=hRW9 23 (by decide)
        clear hRW9
        have hoC:=hbW9.2.2.2.2.2.2.2 rfl
        have hm10:=hm9.below hbW9.1
        have s10:=s9.below hbW9.1
        rw [insert_flat _ _ _ hq] at hoC
        have hlenI:Hid ((S.H.ca.insertIdx q (⟨(F:Int),(I:Int),(j:Int)⟩:Cc)).length = q + 1 + (S.H.ca.length - q)):=Lib.hid (by rw [List.length_insertIdx_of_le_length hq]; omega)
        obtain ⟨a9,c9,hv9,_⟩:=hoC.rd
        rw [hv9] at hoC ⊢
        have hge9:Hid (∀ x,oB a9 = some x → w.heap.size ≤ x):=Lib.hid fun x hx=>Nat.le_trans s9.size (own_oB hoC hx).1
        have hoC:=hoC.mono (Nat.le_trans hm9.bs (Nat.le_refl _))
        clear hv9 hbW9 hm9 s9 sT sC tlen dlen h7 s7
        go_wp2_with (refine wpList_stv rfl _ _ _ rfl b 10 _ [.slice a9 (q + 1 + (S.H.ca.length - q)) c9] rfl rfl rfl _ _ hm10.blk (by show 10 + 1 ≤ 13; omega) (by kernel_rfl) (fun u hu=>by cases List.mem_singleton.1 hu; rfl) ?_)
        intro w11 hb11 hg11
        have hm12:=hm10.setC (l:=S.H.ca.insertIdx q ⟨(F:Int),(I:Int),(j:Int)⟩) (by rw [hlenI.out]; exact hoC) (by rw [hlenI.out]; exact hb11) hg11
        have s12:=s10.put (H':=_) hg11 (.inl rfl) (fun x (hx:kbM b { ((S.lst a7 c7 l7).frs (S.H.m.fs.set j ⟨P2,1,u,d,(F:Int),(I:Int)⟩)) with H:={ ((S.lst a7 c7 l7).frs (S.H.m.fs.set j ⟨P2,1,u,d,(F:Int),(I:Int)⟩)).H with ac:=a9,cc:=c9,ca:=S.H.ca.insertIdx q ⟨(F:Int),(I:Int),(j:Int)⟩ } } x)=>by
         rcases hx with hx | hx
         ·exact .inl (.inl hx)
         ·simp only [klM,List.mem_cons,List.not_mem_nil,or_false] at hx
          rcases hx with hx | hx | hx | hx | hx | hx | hx | hx | hx
          ·exact .inl (.inr (by simp only [klM,List.mem_cons,List.not_mem_nil,or_false]; exact .inl hx))
          ·exact .inl (.inr (by simp only [klM,List.mem_cons,List.not_mem_nil,or_false]; exact .inr (.inl hx)))
          ·exact .inl (.inr (by simp only [klM,List.mem_cons,List.not_mem_nil,or_false]; exact .inr (.inr (.inl hx))))
          ·exact .inl (.inr (by simp only [klM,List.mem_cons,List.not_mem_nil,or_false]; exact .inr (.inr (.inr (.inl hx)))))
          ·exact .inl (.inr (by simp only [klM,List.mem_cons,List.not_mem_nil,or_false]; exact .inr (.inr (.inr (.inr (.inl hx))))))
          ·exact .inl (.inr (by simp only [klM,List.mem_cons,List.not_mem_nil,or_false]; exact .inr (.inr (.inr (.inr (.inr (.inl hx)))))))
          ·exact .inr (hge9.out x hx.symm)
          ·exact .inl (.inr (by simp only [klM,List.mem_cons,List.not_mem_nil,or_false]; exact .inr (.inr (.inr (.inr (.inr (.inr (.inr (.inl hx)))))))))
          ·exact .inl (.inr (by simp only [klM,List.mem_cons,List.not_mem_nil,or_false]; exact .inr (.inr (.inr (.inr (.inr (.inr (.inr (.inr hx))))))))))
        clear hm10 s10 hb11 hg11 hoC
        go_wp2
        go_ret
        have hbd:=hd'.out.cache (X:=⟨P2,1,u,d,(F:Int),(I:Int)⟩) hi'.out hno.out hj' hjr'.out ⟨rfl,rfl,rfl⟩ (by rw [hN'.out]; exact hP2.out.1) hP2.out.2
        refine ⟨j,_,rfl,hm12,s12,⟨rfl,rfl,rfl,rfl,List.length_set,rfl⟩,rfl,?_,.inr ⟨⟨(F:Int),(I:Int),(j:Int)⟩,(List.mem_insertIdx hq).2 (.inl rfl),rfl,rfl,rfl⟩⟩
        unfold putC at hbd
        rw [show atC S.H.ma.ca F I = q from hat.out] at hbd
        exact hbd
      ·have hqi:¬ (q:Int) < (S.H.ca.length:Int):=by omega
       go_upto_region 20 with (fail)
       refine wp_growP 35 [_,_,_,_,_,_,_,_,_,_,_,_,_,_,_,_,_,_,_,_,_,_,_,_,_,_,_,_,_,_,_,_,_,_,.v (.bool false)] (Gk rfl (Gk rfl (Gk rfl (Gf b 1 rfl rfl (Gf b 10 rfl rfl (Gl hm8.blk (V:=.slice S.H.ac S.H.ca.length S.H.cc) (by simp [mkC,MW.frs,MW.lst]) rfl rfl rfl rfl (Gn rfl rfl rfl rfl (Gb (.bool false) (by simp [go_sem,hqi,hql]) rfl rfl rfl rfl rfl (Gk rfl (Gk rfl (Gk rfl (Gk rfl (Gk rfl (Gk rfl (Gk rfl (Gk rfl (Gk rfl (Gk rfl (Gk rfl (Gk rfl (Gk rfl (Gk rfl (Gk rfl (Gk rfl (Gk rfl (Gk rfl (Gk rfl (Gk rfl (Gk rfl (Gk rfl (Gk rfl (Gk rfl (Gk rfl (Gk rfl (Gk rfl (all_nil)))))))))))))))))))))))))))))))))))) (fun _=>rfl) rfl ?_
       intro y W8 hbW8 _
       have hat:Hid (atC S.H.ca F I = q):=Lib.hid (atC_eq hq hno7.out (.inl (by omega)))
       have hb8:=below_next hb7 hbW8
       have hm9:=h7.below hb8
       have s9:=s7.below hb8
       clear hbW8 hm8 hno7
       go_upto_region 22 with (fail)
       have sC:SlR W8 S.H.ac S.H.cc S.H.ca.length (S.H.ca.flatMap ccL):=hm9.ma.rd.ca
       have sT:=sC.take (sz:=3) hq
       have hcl60:S.H.ca.length ≤ 60:=z7
       have tlen:((S.H.ca.flatMap ccL).take (q * 3)).length = q * 3:=by rw [List.length_take,ccs_len]; omega
       have dlen:((S.H.ca.flatMap ccL).drop (q * 3)).length = (S.H.ca.length - q) * 3:=by rw [List.length_drop,ccs_len]; omega
       refine wp_growPQ 27 [_,.r 1 ((fixR fun _=>True)),_,_,_,_,.v (.slice S.H.ac S.H.ca.length S.H.cc),_,_,.r 9 ((fixR fun _=>True)),_,_,_,.v (.agg #[.int .i64 (F:Int),.int .i64 (I:Int),.int .i64 (j:Int)]),.r 14 ((fixR fun _=>True)),.r 15 ((fixR fun _=>True)),_,_,_,_,.v (.slice S.H.ac S.H.ca.length S.H.cc),_,.r 22 ((fixR fun v => ∃ a e,v = .slice a (S.H.ca.length - q) e ∧ SlR W8 a e (S.H.ca.length - q) ((S.H.ca.flatMap ccL).drop (q * 3)))),.r 23 ((fixR fun _=>True)),_,_,_] (jIns W8 q S.H.ca ⟨(F:Int),(I:Int),(j:Int)⟩) jIns_st (fun y=>jIns_0 y) (Qk jIns_st rfl (all_cons ?_ (Qk jIns_st rfl (Qk jIns_st rfl (Qf jIns_st b 1 rfl rfl (Qf jIns_st b 10 rfl rfl (all_cons ?_ (Qk jIns_st rfl (Qr jIns_st (.slice S.H.ac q S.H.cc) (fun ρ y W hk=>(run_take (W0:=W8) rfl (kx_at rfl hk) (kx_at rfl hk) hq Try.underlying37 cached_size sC).1) rfl rfl (all_cons ?_ (Qk jIns_st rfl (Qk jIns_st rfl (Qk jIns_st rfl (all_cons ?_ (all_cons ?_ (all_cons ?_ (Qk jIns_st rfl (Qk jIns_st rfl (Qf jIns_st b 1 rfl rfl (Qf jIns_st b 10 rfl rfl (all_cons ?_ (Qk jIns_st rfl (all_cons ?_ (all_cons ?_ (Qk jIns_st rfl (Qf jIns_st b 1 rfl rfl (Qf jIns_st b 10 rfl rfl (all_nil)))))))))))))))))))))))))))) (fun _=>rfl) rfl ?_
       ·intro ρ y W L hw hn hLi hLd hb hd
        refine asked_runQ (.slice (some ⟨W.heap.size,0,none⟩) 0 0) (want_free rfl) ?_ (jIns_1 hb) trivial
        simp [execOp,go_sem]
       ·intro ρ y W L hw hn hLi hLd hb hd
        refine askQ jIns_st (fun _ _ h=>h) hb ?_
        have E124:=hw 124 5 rfl
        have h5:y 5 = _:=hd 5 rfl
        refine asked_val (.slice S.H.ac S.H.ca.length S.H.cc) (want_free rfl) (by simp [execOp,go_sem,E124,h5,(hm9.below hb.1).blk.cell,mkC,MW.frs,MW.lst]) rfl
       ·intro ρ y W L hw hn hLi hLd hb hd; have E120:=hw 120 1 rfl; have h1:=hd 1 rfl; have E127:=hw 127 8 rfl; have h8:y 8 = _:=hd 8 rfl
        obtain ⟨g,hg1,hg2⟩:=hb.2.2.2.1 (hLd 1 rfl) hLi
        refine asked_appQ (want_free rfl) (run_app0 _ _ _ rfl W8.heap.size 85 (.agg #[.int .i64 0,.int .i64 0,.int .i64 0]) 3 24 Try.underlying37 cached_info rfl (by decide) g (E120.trans hg1) hg2 S.H.ac q S.H.cc _ (E127.trans h8) sT.nl sT.le tlen (sT.below hb.1).rd (by unfold maxLen; omega) (by omega) hb.1.size) (fun v W1 h=>jIns_9 hb h.1 h.2) (fun _ _ _=>trivial)
       ·intro ρ y W L hw hn hLi hLd hb hd
        refine askQ jIns_st (fun _ _ h=>h) hb ?_
        have E129:=hw 129 10 rfl
        have h10:y 10 = _:=hd 10 rfl
        have E130:=hw 130 11 rfl
        have h11:y 11 = _:=hd 11 rfl
        have E131:=hw 131 12 rfl
        have h12:y 12 = _:=hd 12 rfl
        refine asked_val (.agg #[.int .i64 (F:Int),.int .i64 (I:Int),.int .i64 (j:Int)]) (want_free rfl) (by simp [execOp,go_sem,E129,h10,E130,h11,E131,h12]) rfl
       ·intro ρ y W L hw hn hLi hLd hb hd; have E132:=hw 132 13 rfl; have h13:y 13 = _:=hd 13 rfl
        refine asked_runQ (.slice (some ⟨W.heap.size,0,none⟩) 1 1) (want_free rfl) ?_ (jIns_14 (W':=W.alloc (.cells (ccC ⟨(F:Int),(I:Int),(j:Int)⟩) 85)) hb ((Below.refl _ _).alloc (Nat.le_refl _) _) ⟨Nat.le_refl _,by unfold maxLen; omega,fun e=>(by cases e),RdV.new _ _ _⟩) trivial
        simp [execOp,go_sem,E132.trans h13,ccC]
       ·intro ρ y W L hw hn hLi hLd hb hd; have E128:=hw 128 9 rfl; have h9:=hd 9 rfl; have E133:=hw 133 14 rfl; have h14:=hd 14 rfl
        obtain ⟨a,e,hx1,hx2⟩:=hb.2.2.2.2.2.1 (hLd 14 rfl) hLi
        have hv:=hb.2.2.2.2.1 (hLd 9 rfl) hLi
        refine asked_appQ (want_free rfl) (run_app _ _ _ rfl W8.heap.size 85 (.agg #[.int .i64 0,.int .i64 0,.int .i64 0]) 3 24 Try.underlying37 cached_info rfl (by decide) (y 9) q _ E128 hv a 1 e _ (E133.trans hx1) hx2.nl hx2.le rfl hx2.rd (ccL_one _) (by unfold maxLen; omega) (by omega) hb.1.size) (fun v W1 h=>jIns_15 hb hLi (hLd 9 rfl) h.2.1 h.1) (fun _ _ _=>trivial)
       ·intro ρ y W L hw hn hLi hLd hb hd
        refine askQ jIns_st (fun _ _ h=>h) hb ?_
        have E138:=hw 138 19 rfl
        have h19:y 19 = _:=hd 19 rfl
        refine asked_val (.slice S.H.ac S.H.ca.length S.H.cc) (want_free rfl) (by simp [execOp,go_sem,E138,h19,(hm9.below hb.1).blk.cell,mkC,MW.frs,MW.lst]) rfl
       ·intro ρ y W L hw hn hLi hLd hb hd
        refine askQ jIns_st (fun _ _ h=>h) hb ?_
        have E139:=hw 139 20 rfl
        have h20:y 20 = _:=hd 20 rfl
        have E140:=hw 140 21 rfl
        have h21:y 21 = _:=hd 21 rfl
        exact asked_ex (want_free rfl) (run_drop (W0:=W8) rfl (E139.trans h20) (E140.trans h21) hq Try.underlying37 cached_size (ccs_len _) sC) (fun _ h=>h)
       ·intro ρ y W L hw hn hLi hLd hb hd; have E134:=hw 134 15 rfl; have h15:=hd 15 rfl; have E141:=hw 141 22 rfl; have h22:=hd 22 rfl
        obtain ⟨a,e,hx1,hx2⟩:=h22
        have hv:=hb.2.2.2.2.2.2.1 (hLd 15 rfl) hLi
        refine asked_appQ (want_free rfl) (run_app _ _ _ rfl W8.heap.size 85 (.agg #[.int .i64 0,.int .i64 0,.int .i64 0]) 3 24 Try.underlying37 cached_info rfl (by decide) (y 15) (q + 1) _ E134 hv a (S.H.ca.length - q) e _ (E141.trans hx1) hx2.nl hx2.le dlen (hx2.below hb.1).rd (fun u hu=>ccs_one _ u (List.mem_of_mem_drop hu)) (by unfold maxLen; omega) (by omega) hb.1.size) (fun v W1 h=>jIns_23 hb hLi (hLd 15 rfl) h.2.1 h.1) (fun _ _ _=>trivial)
       intro y W9 hbW9 hRW9
       have hy1:((fixR fun _=>True)).r (y 1) W9:=hRW9 1 (by decide)
       have hy9:((fixR fun _=>True)).r (y 9) W9:=hRW9 9 (by decide)
       have hy14:((fixR fun _=>True)).r (y 14) W9:=hRW9 14 (by decide)
       have hy15:((fixR fun _=>True)).r (y 15) W9:=hRW9 15 (by decide)
       have hy22:((fixR fun v => ∃ a e,v = .slice a (S.H.ca.length - q) e ∧ SlR W8 a e (S.H.ca.length - q) ((S.H.ca.flatMap ccL).drop (q * 3)))).r (y 22) W9:=hRW9 22 (by decide)
       have hy23:((fixR fun _=>True)).r (y 23) W9:=hRW9 23 (by decide)
       clear hRW9
       have hoC:=hbW9.2.2.2.2.2.2.2 rfl
       have hm10:=hm9.below hbW9.1
       have s10:=s9.below hbW9.1
       rw [insert_flat _ _ _ hq] at hoC
       have hlenI:Hid ((S.H.ca.insertIdx q (⟨(F:Int),(I:Int),(j:Int)⟩:Cc)).length = q + 1 + (S.H.ca.length - q)):=Lib.hid (by rw [List.length_insertIdx_of_le_length hq]; omega)
       obtain ⟨a9,c9,hv9,_⟩:=hoC.rd
       rw [hv9] at hoC ⊢
       have hge9:Hid (∀ x,oB a9 = some x → w.heap.size ≤ x):=Lib.hid fun x hx=>Nat.le_trans s9.size (own_oB hoC hx).1
       have hoC:=hoC.mono (Nat.le_trans hm9.bs (Nat.le_refl _))
       clear hv9 hbW9 hm9 s9 sT sC tlen dlen h7 s7
       go_wp2_with (refine wpList_stv rfl _ _ _ rfl b 10 _ [.slice a9 (q + 1 + (S.H.ca.length - q)) c9] rfl rfl rfl _ _ hm10.blk (by show 10 + 1 ≤ 13; omega) (by kernel_rfl) (fun u hu=>by cases List.mem_singleton.1 hu; rfl) ?_)
       intro w11 hb11 hg11
       have hm12:=hm10.setC (l:=S.H.ca.insertIdx q ⟨(F:Int),(I:Int),(j:Int)⟩) (by rw [hlenI.out]; exact hoC) (by rw [hlenI.out]; exact hb11) hg11
       have s12:=s10.put (H':=_) hg11 (.inl rfl) (fun x (hx:kbM b { ((S.lst a7 c7 l7).frs (S.H.m.fs.set j ⟨P2,1,u,d,(F:Int),(I:Int)⟩)) with H:={ ((S.lst a7 c7 l7).frs (S.H.m.fs.set j ⟨P2,1,u,d,(F:Int),(I:Int)⟩)).H with ac:=a9,cc:=c9,ca:=S.H.ca.insertIdx q ⟨(F:Int),(I:Int),(j:Int)⟩ } } x)=>by
        rcases hx with hx | hx
        ·exact .inl (.inl hx)
        ·simp only [klM,List.mem_cons,List.not_mem_nil,or_false] at hx
         rcases hx with hx | hx | hx | hx | hx | hx | hx | hx | hx
         ·exact .inl (.inr (by simp only [klM,List.mem_cons,List.not_mem_nil,or_false]; exact .inl hx))
         ·exact .inl (.inr (by simp only [klM,List.mem_cons,List.not_mem_nil,or_false]; exact .inr (.inl hx)))
         ·exact .inl (.inr (by simp only [klM,List.mem_cons,List.not_mem_nil,or_false]; exact .inr (.inr (.inl hx))))
         ·exact .inl (.inr (by simp only [klM,List.mem_cons,List.not_mem_nil,or_false]; exact .inr (.inr (.inr (.inl hx)))))
         ·exact .inl (.inr (by simp only [klM,List.mem_cons,List.not_mem_nil,or_false]; exact .inr (.inr (.inr (.inr (.inl hx))))))
         ·exact .inl (.inr (by simp only [klM,List.mem_cons,List.not_mem_nil,or_false]; exact .inr (.inr (.inr (.inr (.inr (.inl hx)))))))
         ·exact .inr (hge9.out x hx.symm)
         ·exact .inl (.inr (by simp only [klM,List.mem_cons,List.not_mem_nil,or_false]; exact .inr (.inr (.inr (.inr (.inr (.inr (.inr (.inl hx)))))))))
         ·exact .inl (.inr (by simp only [klM,List.mem_cons,List.not_mem_nil,or_false]; exact .inr (.inr (.inr (.inr (.inr (.inr (.inr (.inr hx))))))))))
       clear hm10 s10 hb11 hg11 hoC
       go_wp2
       go_ret
       have hbd:=hd'.out.cache (X:=⟨P2,1,u,d,(F:Int),(I:Int)⟩) hi'.out hno.out hj' hjr'.out ⟨rfl,rfl,rfl⟩ (by rw [hN'.out]; exact hP2.out.1) hP2.out.2
       refine ⟨j,_,rfl,hm12,s12,⟨rfl,rfl,rfl,rfl,List.length_set,rfl⟩,rfl,?_,.inr ⟨⟨(F:Int),(I:Int),(j:Int)⟩,(List.mem_insertIdx hq).2 (.inl rfl),rfl,rfl,rfl⟩⟩
       unfold putC at hbd
       rw [show atC S.H.ma.ca F I = q from hat.out] at hbd
       exact hbd
theorem go_on:∀ {r:List Ar} {q:Ar},areaE q = 0 → srtF q.en r → ∀ n,onA (tidyGo q r) n = onA (q :: r) n
 | [],q,_,_,n=>rfl
 | a :: r,q,hq,h,n=>by
  unfold tidyGo
  split
  ·rename_i hj
   rw [go_on (joins_right hq h.1 hj) (by simpa using h.2.2) n,joins_on hq h.1 hj]
  ·rw [onA_cons,go_on h.1 h.2.2 n,← onA_cons]
theorem go_ok:∀ {r:List Ar} {q:Ar} {p:Option Ar},areaE q = 0 → srtF q.en r → badOn p q = false → okF p (tidyGo q r)
 | [],q,p,hq,_,hb=>⟨hq,hb,trivial⟩
 | a :: r,q,p,hq,h,hb=>by
  unfold tidyGo
  split
  ·rename_i hj
   refine go_ok (joins_right hq h.1 hj) (by simpa using h.2.2) ?_
   cases p with
   | none=>rfl
   | some z=>exact hb
  ·rename_i hj
   exact ⟨hq,hb,go_ok h.1 h.2.2 (bad_some.2 ⟨h.2.1,by simpa using hj⟩)⟩
theorem tidy_on {l:List Ar} {lo:Int} (h:srtF lo l) (n:Int):onA (tidyL l) n = onA l n:=by
 match l,h with
 | [],_=>rfl
 | a :: r,h=>rw [tidyL_cons,go_on h.1 h.2.2]
theorem tidy_ok {l:List Ar} {lo:Int} (h:srtF lo l):okF none (tidyL l):=by
 match l,h with
 | [],_=>trivial
 | a :: r,h=>rw [tidyL_cons]; exact go_ok h.1 h.2.2 rfl
end Go.Proofs.Ytkjobhcnlppcnaa