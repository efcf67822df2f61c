import Derived.Test.YtkjobhcnlppcnaaZ5
set_option linter.unusedSimpArgs false
set_option linter.unusedVariables false
set_option maxHeartbeats 4000000
set_option maxRecDepth 100000
namespace Go.Proofs.Ytkjobhcnlppcnaa
open Go.RowKit Go.Maps Pw
def clN (x:Int) (m:Nat):Nat:=(max (min x m) 0).toNat
theorem clN_le (x:Int) (m:Nat):clN x m ≤ m:=by unfold clN; omega
theorem clN_int (x:Int) (m:Nat):((clN x m:Nat):Int) = max (min x m) 0:=by unfold clN; omega
def BuildR (f s b:Int) (l:List UInt8) (w:World) (r:Ending) (w' : World):Prop:=∃ H:MH,r = .returned (.agg (mhC H)) ∧ MaO w' w.heap.size H ∧ Below w.heap.size w w' ∧ Rt H.ma ∧ Co H.ma ∧ (∀ p ∈ H.sp,∀ n g,onA p.ar n = some g → g.fi < H.fi.length) ∧
 H.m.fs.length = clN f 40 ∧ H.dk.blocks.length = clN b 80 ∧ 1 ≤ H.sp.length ∧ (l = [] → H.ma = newMa (clN f 40) (clN s 60) (clN b 80))
theorem rbuild_any (fr sl bl:Int) (al:Option Addr) (cl:Nat) (l:List UInt8) (w:World) (hr:SlR w al cl l.length (l.map byV)) :
  Calls Try.prog 9 #[.int .i64 fr,.int .i64 sl,.int .i64 bl,.slice al l.length cl] w (BuildR fr sl bl l w):=by
 have hra:Hid (∀ a,al = some a → l.map byV ≠ [] → a.block < w.heap.size):=Lib.hid fun a ha hl=>by
  obtain ⟨u,hu⟩:∃ u,(l.map byV)[0]? = some u:=⟨_,List.getElem?_eq_getElem (List.length_pos_iff.2 hl)⟩
  obtain ⟨b',o',e,hc⟩:=hr.rd 0 u hu
  rw [ha] at e
  cases e
  exact cell_lt hc
 go_enter Try.func9,Try.ntmps9
 go_upto_region 2 with (fail)
 refine abs2 (fun W=>Code.wp _ _ _ _ W) fun w1 hb1 bx1 mx1 hs1 => ?_
 have hr1:=hr.below hb1
 have mx1:Blk w1 (w.heap.size + 1) (mkC ⟨al,cl,l,noH,none,0,[]⟩) 89:=mx1
 have bx1:Blk w1 w.heap.size (mhC noH) 40:=bx1
 clear hr
 go_upto_region 3 with (fail)
 have e0:(if (if 40 < fr then (40:Int) else fr) < 0 then 0 else if 40 < fr then 40 else fr) = ((clN fr 40:Nat):Int):=by
  rw [clN_int]; split <;> split <;> omega
 have e1:(if (if 60 < sl then (60:Int) else sl) < 0 then 0 else if 60 < sl then 60 else sl) = ((clN sl 60:Nat):Int):=by
  rw [clN_int]; split <;> split <;> omega
 have e2:(if (if 80 < bl then (80:Int) else bl) < 0 then 0 else if 80 < bl then 80 else bl) = ((clN bl 80:Nat):Int):=by
  rw [clN_int]; split <;> split <;> omega
 rw [e0,e1,e2]
 clear e0 e1 e2
 generalize (if 40 < fr then (40:Int) else fr) = z0
 generalize (if 60 < sl then (60:Int) else sl) = z1
 generalize (if 80 < bl then (80:Int) else bl) = z2
 obtain ⟨f,hf⟩:∃ f,clN fr 40 = f:=⟨_,rfl⟩
 obtain ⟨s,hs⟩:∃ s,clN sl 60 = s:=⟨_,rfl⟩
 obtain ⟨ct,hct⟩:∃ ct,clN bl 80 = ct:=⟨_,rfl⟩
 have hf40:f ≤ 40:=by rw [← hf]; exact clN_le _ _
 have hs60:s ≤ 60:=by rw [← hs]; exact clN_le _ _
 have hc80:ct ≤ 80:=by rw [← hct]; exact clN_le _ _
 have hcl:=Lib.hid (And.intro hf (And.intro hs hct))
 rw [hf,hs,hct]
 clear hf hs hct
 have hb1z:w.heap.size + 2 ≤ w1.heap.size:=mx1.lt
 have hmkF:∀ W:World,(Instr.makeSlice 25 (.int .i64 (f:Int)) (.int .i64 (f:Int))).run Try.prog W = .ok (.slice (some ⟨W.heap.size,0,none⟩) f f) (W.alloc (.cells (madeCells (frC fr0) (f * 13)) 59)):=
  run_mk 25 59 _ 13 40 Try.underlying25 frame_info .i64 .i64 f (by omega) (by omega)
 have hmkS:∀ W:World,(Instr.makeSlice 29 (.int .i64 (s:Int)) (.int .i64 (s:Int))).run Try.prog W = .ok (.slice (some ⟨W.heap.size,0,none⟩) s s) (W.alloc (.cells (madeCells #[.int .i64 0] (s * 1)) 3)):=
  run_mk 29 3 _ 1 8 Try.underlying29 int_info .i64 .i64 s (by omega) (by omega)
 have hmkW:∀ W:World,(Instr.makeSlice 30 (.int .i64 (s:Int)) (.int .i64 (s:Int))).run Try.prog W = .ok (.slice (some ⟨W.heap.size,0,none⟩) s s) (W.alloc (.cells (madeCells (pgC zPg) (s * 8)) 50)):=
  run_mk 30 50 _ 8 8 Try.underlying30 page_info .i64 .i64 s (by omega) (by omega)
 have hmkD:∀ W:World,(Instr.makeSlice 30 (.int .i64 (ct:Int)) (.int .i64 (ct:Int))).run Try.prog W = .ok (.slice (some ⟨W.heap.size,0,none⟩) ct ct) (W.alloc (.cells (madeCells (pgC zPg) (ct * 8)) 50)):=
  run_mk 30 50 _ 8 8 Try.underlying30 page_info .i64 .i64 ct (by omega) (by omega)
 have hb2:=Lib.hid hb1
 clear hb1
 refine wp_growPQ 17 [_,_,.r 2 ((fixR fun _=>True)),.r 3 ((fixR fun _=>True)),_,.r 5 ((fixR fun _=>True)),_,.r 7 ((fixR fun _=>True)),.r 8 ((fixR fun _=>True)),_,.r 10 ((fixR fun _=>True)),.r 11 ((fixR fun _=>True)),_,.v (.agg #[.slice none 0 0,.int .i64 (ct:Int)]),.r 14 ((fixR fun _=>True)),_,_] (JM w1 w1.heap.size f s ct (frC fr0) #[.int .i64 0] (pgC zPg)) JM_st (fun y=>JM_0 y) (Qk JM_st rfl (Qk JM_st rfl (all_cons ?_ (all_cons ?_ (Qk JM_st rfl (all_cons ?_ (Qk JM_st rfl (all_cons ?_ (all_cons ?_ (Qk JM_st rfl (all_cons ?_ (all_cons ?_ (Qk JM_st rfl (all_cons ?_ (all_cons ?_ (Qk JM_st rfl (Qf JM_st (w.heap.size + 1) 1 rfl rfl (all_nil) (fun _ _ _ _ h=>JM_up (by decide) h)) (fun _ _ _ _ h=>JM_up (by decide) h)))) (fun _ _ _ _ h=>JM_up (by decide) h)))) (fun _ _ _ _ h=>JM_up (by decide) h)))) (fun _ _ _ _ h=>JM_up (by decide) h))) (fun _ _ _ _ h=>JM_up (by decide) h)))) (fun _ _ _ _ h=>JM_up (by decide) h)) (fun _ _ _ _ h=>JM_up (by decide) h)) (fun _=>rfl) rfl ?_
 ·intro ρ y W L hw hn hLi hLd hb hd; have E32:=hw 32 1 rfl; have h1:y 1 = _:=hd 1 rfl
  refine asked_runQ (.slice (some ⟨W.heap.size,0,none⟩) f f) (want_free rfl) ?_ (JM_2 hLi (Nat.le_refl _) hb) trivial
  simp [execOp,go_sem,E32,h1,hmkF]
 ·intro ρ y W L hw hn hLi hLd hb hd; have E33:=hw 33 2 rfl; have h2:=hd 2 rfl
  obtain ⟨g,e2,_,_⟩:=hb.k2 (hLd 2 rfl)
  refine asked_runQ (.agg #[y 2,.int .i64 0]) (want_free rfl) ?_ (JM_3 hLi (hLd 2 rfl) hb) trivial
  rw [e2] at E33 ⊢
  simp [execOp,go_sem,E33]
 ·intro ρ y W L hw hn hLi hLd hb hd; have E35:=hw 35 4 rfl; have h4:y 4 = _:=hd 4 rfl
  refine asked_runQ (.slice (some ⟨W.heap.size,0,none⟩) s s) (want_free rfl) ?_ (JM_5 hLi (Nat.le_refl _) hb) trivial
  simp [execOp,go_sem,E35,h4,hmkS]
 ·intro ρ y W L hw hn hLi hLd hb hd; have E37:=hw 37 6 rfl; have h6:y 6 = _:=hd 6 rfl
  refine asked_runQ (.slice (some ⟨W.heap.size,0,none⟩) s s) (want_free rfl) ?_ (JM_7 hLi (Nat.le_refl _) hb) trivial
  simp [execOp,go_sem,E37,h6,hmkW]
 ·intro ρ y W L hw hn hLi hLd hb hd; have E38:=hw 38 7 rfl; have h7:=hd 7 rfl
  obtain ⟨g,e2,_,_⟩:=hb.k7 (hLd 7 rfl)
  refine asked_runQ (.agg #[y 7,.slice none 0 0]) (want_free rfl) ?_ (JM_8 hLi (hLd 7 rfl) hb) trivial
  rw [e2] at E38 ⊢
  simp [execOp,go_sem,E38]
 ·intro ρ y W L hw hn hLi hLd hb hd; have E40:=hw 40 9 rfl; have h9:y 9 = _:=hd 9 rfl
  refine asked_runQ (.slice (some ⟨W.heap.size,0,none⟩) ct ct) (want_free rfl) ?_ (JM_10 hLi (Nat.le_refl _) hb) trivial
  simp [execOp,go_sem,E40,h9,hmkD]
 ·intro ρ y W L hw hn hLi hLd hb hd; have E41:=hw 41 10 rfl; have h10:=hd 10 rfl
  obtain ⟨g,e2,_,_⟩:=hb.k10 (hLd 10 rfl)
  refine asked_runQ (.agg #[y 10,.slice none 0 0]) (want_free rfl) ?_ (JM_11 hLi (hLd 10 rfl) hb) trivial
  rw [e2] at E41 ⊢
  simp [execOp,go_sem,E41]
 ·intro ρ y W L hw hn hLi hLd hb hd
  refine askQ JM_st (fun _ _ h=>JM_up (by decide) h) hb ?_
  have E43:=hw 43 12 rfl
  have h12:y 12 = _:=hd 12 rfl
  refine asked_val (.agg #[.slice none 0 0,.int .i64 (ct:Int)]) (want_free rfl) (by simp [execOp,go_sem,E43,h12]) rfl
 ·intro ρ y W L hw hn hLi hLd hb hd; have E34:=hw 34 3 rfl; have h3:=hd 3 rfl; have E36:=hw 36 5 rfl; have h5:=hd 5 rfl; have E39:=hw 39 8 rfl; have h8:=hd 8 rfl; have E42:=hw 42 11 rfl; have h11:=hd 11 rfl
  have E44:=hw 44 13 rfl
  have h13:y 13 = _:=hd 13 rfl
  obtain ⟨l2,e3⟩:=hb.k3 (hLd 3 rfl)
  obtain ⟨l7,e8⟩:=hb.k8 (hLd 8 rfl)
  obtain ⟨l10,e11⟩:=hb.k11 (hLd 11 rfl)
  obtain ⟨g2,e2,_,_⟩:=hb.k2 l2
  obtain ⟨g5,e5,_,_⟩:=hb.k5 (hLd 5 rfl)
  obtain ⟨g7,e7,_,_⟩:=hb.k7 l7
  obtain ⟨g10,e10,_,_⟩:=hb.k10 l10
  refine asked_runQ (.agg #[y 2,.int .i64 0,y 5,y 7,.slice none 0 0,y 10,.slice none 0 0,.slice none 0 0,.int .i64 ct,.slice none 0 0,.slice none 0 0]) (want_free rfl) ?_ (JM_14 (hLd 3 rfl) (hLd 5 rfl) (hLd 8 rfl) (hLd 11 rfl) hb) trivial
  rw [e3,e2] at E34
  rw [e5] at E36
  rw [e8,e7] at E39
  rw [e11,e10] at E42
  rw [e2,e5,e7,e10]
  simp [execOp,go_sem,E34,E36,E39,E42,E44,h13]
 intro y W3 hbW3 hRW3
 have hy2:((fixR fun _=>True)).r (y 2) W3:=hRW3 2 (by decide)
 have hy3:((fixR fun _=>True)).r (y 3) W3:=hRW3 3 (by decide)
 have hy5:((fixR fun _=>True)).r (y 5) W3:=hRW3 5 (by decide)
 have hy7:((fixR fun _=>True)).r (y 7) W3:=hRW3 7 (by decide)
 have hy8:((fixR fun _=>True)).r (y 8) W3:=hRW3 8 (by decide)
 have hy10:((fixR fun _=>True)).r (y 10) W3:=hRW3 10 (by decide)
 have hy11:((fixR fun _=>True)).r (y 11) W3:=hRW3 11 (by decide)
 have hy14:((fixR fun _=>True)).r (y 14) W3:=hRW3 14 (by decide)
 clear hRW3
 obtain ⟨⟨l3,l5,l8,l11⟩,e14⟩:=hbW3.k14 rfl
 obtain ⟨gf,e2,bf,kf⟩:=hbW3.k2 rfl
 obtain ⟨gs,e5,bs,ks⟩:=hbW3.k5 rfl
 obtain ⟨gw,e7,bw,kw⟩:=hbW3.k7 rfl
 obtain ⟨gd,e10,bd,kd⟩:=hbW3.k10 rfl
 have hwd:gw ≠ gd:=made_ne kw kd (by rw [← e7,← e10]; exact hbW3.ne rfl rfl)
 have mx3:=mx1.ext hbW3.be
 have bx3:=bx1.ext hbW3.be
 have hr3:=hr1.below hbW3.be
 have hbe3:=Lib.hid (below_next hb2.out hbW3.be)
 rw [e14,e2,e5,e7,e10]
 clear hy2 hy3 hy5 hy7 hy8 hy10 hy11 hy14 e14 e2 e5 e7 e10 hbW3 l3 l5 l8 l11 hmkF hmkS hmkW hmkD mx1 bx1 hr1 hb2
 go_wp2_with (refine wpList_stv rfl _ _ _ rfl (w.heap.size + 1) 1 _ [.slice (some ⟨gf,0,none⟩) f f,.int .i64 0,.slice (some ⟨gs,0,none⟩) s s,.slice (some ⟨gw,0,none⟩) s s,.slice none 0 0,.slice (some ⟨gd,0,none⟩) ct ct,.slice none 0 0,.slice none 0 0,.int .i64 ct,.slice none 0 0,.slice none 0 0] rfl rfl rfl _ _ mx3 (by show 1 + 11 ≤ 13; omega) (by kernel_rfl) (by simp [Value.oneCell']) ?_)
 intro w4 hb4 hg4
 have hk4:Blk w4 (w.heap.size + 1) (mkC ⟨al,cl,l,stH gf gs gw gd f s ct,none,0,[]⟩) 89:=by
  have e:mkC ⟨al,cl,l,stH gf gs gw gd f s ct,none,0,[]⟩ = putAt (mkC ⟨al,cl,l,noH,none,0,[]⟩) 1 [.slice (some ⟨gf,0,none⟩) f f,.int .i64 0,.slice (some ⟨gs,0,none⟩) s s,.slice (some ⟨gw,0,none⟩) s s,.slice none 0 0,.slice (some ⟨gd,0,none⟩) ct ct,.slice none 0 0,.slice none 0 0,.int .i64 ct,.slice none 0 0,.slice none 0 0]:=by
   unfold mkC stH noH
   dsimp only
   rw [List.length_replicate,List.length_replicate,List.length_replicate,List.length_replicate]
   kernel_rfl
  rw [e]; exact hb4
 have hm4:MkO w4 (w.heap.size + 1) (w.heap.size + 1) ⟨al,cl,l,stH gf gs gw gd f s ct,none,0,[]⟩:=
  start_O (hr3.keep (B:=w.heap.size + 1) (fun a ha hl=>Nat.lt_succ_of_lt (hra.out a ha hl)) (Nat.le_of_lt mx3.lt) hg4 (Nat.le_refl _)) (fun a ha hl=>Nat.lt_succ_of_lt (hra.out a ha hl)) (Nat.le_refl _) hk4 hf40 hs60 hc80 (by omega) (by omega) (by omega) (by omega) hwd (zf:=frC fr0) (zs:=#[.int .i64 0]) (zp:=pgC zPg) rfl rfl rfl
   (kf.grown hg4 (fun e=>by have:=Option.some.inj e; omega)) (ks.grown hg4 (fun e=>by have:=Option.some.inj e; omega)) (kw.grown hg4 (fun e=>by have:=Option.some.inj e; omega)) (kd.grown hg4 (fun e=>by have:=Option.some.inj e; omega))
 have bx4:Blk w4 w.heap.size (mhC noH) 40:=bx3.grown hg4 (fun e=>by have:=Option.some.inj e; omega)
 have hbe4:Hid (Below w.heap.size w w4):=Lib.hid (hbe3.out.grown hg4 (Nat.le_trans (by omega) (Nat.le_of_lt mx3.lt)) (fun k hk=>by cases hk; omega))
 have hszl4:w.heap.size + 2 ≤ w4.heap.size:=hk4.lt
 clear kf ks kw kd mx3 bx3 hr3 hbe3 hb4 hg4 hk4 bf bs bw bd hwd hra hb1z
 generalize hb' : w.heap.size + 1 = b at hm4 hszl4 ⊢
 have hbb:=Lib.hid hb'
 clear hb'
 obtain ⟨S3,hS3⟩:∃ S3,S3 = (⟨al,cl,l,stH gf gs gw gd f s ct,none,0,[]⟩:MW):=⟨_,rfl⟩
 have hS3':=Lib.hid hS3
 rw [← hS3] at hm4
 have hc:=hm4.blk.cell
 unfold mkC at hc
 have hfl:S3.H.m.fs.length = f:=by rw [hS3]; exact List.length_replicate
 rw [hfl] at hc
 clear hfl
 have hm4q:MkO w4 b b (S3.frs (frQ f 0)):=by
  have e:S3.frs (frQ f 0) = S3:=by rw [hS3]; rfl
  rw [e]; exact hm4
 have hs4q:MS w4 b S3 w4 (S3.frs (frQ f 0)):=(MS.refl w4 b S3).same rfl
 have hnb4:Hid (¬ kbM b S3 w.heap.size):=Lib.hid (fun hk=>by
  have h1:=(hm4.kb_own hk).1
  have h2:=hbb.out
  omega)
 have hto:Hid (∀ w' S',MS w4 b S3 w' S' → Below b w4 w'):=Lib.hid (fun w' S' h=>MS.to hm4 h (Nat.le_refl b))
 clear hS3 hm4
 have bx4':=Lib.hid bx4
 clear bx4
 go_upto_region 5 with (fail)
 go_loopw [55] (fun k wr => ∃ q:Nat,q ≤ f ∧ k = .int .i64 q ∧ MkO wr b b (S3.frs (frQ f q)) ∧ MS w4 b S3 wr (S3.frs (frQ f q))) (fun k _=>f - (intOf k).toNat)
 case atStart=>exact ⟨0,Nat.zero_le _,rfl,hm4q,hs4q⟩
 case round=>
  clear hm4q hs4q
  obtain ⟨q,hq,rfl,hm,hs⟩:=hrel
  by_cases hqf:q < f
  ·have hqi:(q:Int) < (f:Int):=by omega
   have hlq:(frQ f q).length = f:=frQ_len hq
   have hc:=hm.blk.cell
   unfold mkC at hc
   dsimp only [MW.frs] at hc
   rw [hlq] at hc
   obtain ⟨g,off,cap,cur,hv,hgB,hg,hgs,hgc,hgw⟩:=hm.ma.fr.put frL_len (by decide) q (by show q < (frQ f q).length; omega)
   have haf:S3.H.af = some ⟨g,off,none⟩:=(Value.slice.inj hv).1
   have hcur:Hid (∀ j u,(frL fr0)[j]? = some u → cur[off + q * 13 + j]? = some u):=Lib.hid fun j u hj=>by
    have e:(S3.frs (frQ f q)).H.m.fs[q]'(by show q < (frQ f q).length; omega) = fr0:=frQ_get hqf (by omega)
    have:=hgc j u (by rw [e]; exact hj)
    rw [hg.cell] at this
    exact this
   rw [haf] at hc
   have hgw':=Lib.hid hgw
   have hlq':=Lib.hid hlq
   have haf':=Lib.hid haf
   clear hv hgc hgw hlq haf
   go_wp2_with (refine wpList_stv rfl _ _ _ rfl g (off + q * 13 + 11) _ [.int .i64 (-1)] rfl rfl rfl _ _ hg (by show off + q * 13 + 11 + 1 ≤ cur.size; omega) (by kernel_rfl) (fun u hu=>by cases List.mem_singleton.1 hu; rfl) ?_)
   intro w5 hb5 hg5
   rw [frQ_put hgs hcur.out] at hb5
   have ho:=hgw'.out _ _ hb5
   have hset:(S3.frs (frQ f q)).H.m.fs.set q frZ = frQ f (q + 1):=frQ_set hqf
   have hlen:(frQ f (q + 1)).length = (frQ f q).length:=by rw [frQ_len (by omega),frQ_len hq]
   rw [hset] at ho
   have hm5:MkO w5 b b (S3.frs (frQ f (q + 1))):=hm.putF hg hgB hg5 (fs:=frQ f (q + 1)) hlen (by rw [hlen]; exact ho)
   have hs5:MS w4 b S3 w5 (S3.frs (frQ f (q + 1))):=hs.put hg5 (.inr (by show some g ∈ klM S3; unfold klM; rw [haf'.out]; exact List.mem_cons_self)) (fun x hx => .inl hx)
   clear hm hs hg hgs hb5 hg5 hc ho hset hlen
   go_wp2
   go_roundw
   case rel=>exact ⟨q + 1,by omega,by go_num,hm5,hs5⟩
   case measure=>simp [intOf]; omega
  ·have hqi:¬ (q:Int) < (f:Int):=by omega
   have hqe:f = q:=by omega
   subst hqe
   rw [frQ_end] at hm hs
   go_wp2_with fail
   refine (rpick_any _ 3 b b _ hm (by omega)).mono ?_
   rintro r w5 ⟨N,a5,c5,l5,rfl,hm5,hs5,hN,hN0⟩
   have hs5:=hs.trans hs5
   have hl5:Hid (l = [] → N = 0 ∧ l5 = []):=Lib.hid fun e=>hN0 (by show S3.l = []; rw [hS3'.out]; exact e)
   have hF5:Fil f s ct S3.H.asl ((S3.frs (List.replicate f frZ)).lst a5 c5 l5).H.fi (List.replicate ct zPg) [] ((S3.frs (List.replicate f frZ)).lst a5 c5 l5):=by
    rw [hS3'.out]
    exact ⟨rfl,rfl,rfl,rfl,rfl,rfl,rfl,rfl,rfl,rfl⟩
   have hfi5:((S3.frs (List.replicate f frZ)).lst a5 c5 l5).H.fi = []:=by rw [hS3'.out]; rfl
   have hls5:Hid (l = [] → ((S3.frs (List.replicate f frZ)).lst a5 c5 l5).l = []):=Lib.hid fun e=>(hl5.out e).2
   obtain ⟨N,rfl⟩:=Int.eq_ofNat_of_zero_le hN.1
   have hN2:N ≤ 2:=by omega
   clear hm hs hN hN0 hqf hqi hq
   generalize (S3.frs (List.replicate f frZ)).lst a5 c5 l5 = S5 at hm5 hs5 hF5 hfi5 hls5
   go_upto_region 10 with (fail)
   go_loopw [70] (fun k wr => ∃ (q:Nat) (S:MW) (bk:List Page) (qu:List (Int × Page)),q ≤ N ∧ k = .int .i64 q ∧ MkO wr b b S ∧ MS w4 b S3 wr S ∧ Hid (Fil f s ct S3.H.asl S.H.fi bk qu S ∧ Fb ct bk qu (S.H.fi.map PF.fi) [] ∧ S.H.fi.length = q ∧ (q = 0 → bk = List.replicate ct zPg ∧ qu = [] ∧ (l = [] → S.l = [])))) (fun k _=>N - (intOf k).toNat)
   case atStart=>exact ⟨0,S5,_,_,Nat.zero_le _,rfl,hm5,hs5,Lib.hid ⟨hF5,by rw [hfi5]; exact Fb.start hc80,by rw [hfi5]; rfl,fun _=>⟨rfl,rfl,hls5.out⟩⟩⟩
   case round=>
    clear hm5 hs5 hF5 hfi5 hls5
    obtain ⟨q,S,bk,qu,hq,rfl,hm,hs,hI⟩:=hrel
    obtain ⟨fi0,hfi0⟩:∃ fi0,S.H.fi = fi0:=⟨_,rfl⟩
    rw [hfi0] at hI
    clear hfi0
    have hl0q:Hid (fi0.length = q):=Lib.hid hI.out.2.2.1
    have hl0:Hid (fi0.length ≤ 2):=Lib.hid (by have:=hI.out.2.2.1; omega)
    by_cases hqN:q < N
    ·have hqi:(q:Int) < (N:Int):=by omega
     go_wp2_with fail
     refine (rpick_any _ 40 b b _ hm (by omega)).mono ?_
     rintro r w6 ⟨x,a6,c6,l6,rfl,hm6,hs6,hx,_⟩
     have hs6:=hs.trans hs6
     have hF6:Hid (Fil f s ct S3.H.asl fi0 bk qu (S.lst a6 c6 l6)):=Lib.hid (hI.out.1.lst _ _ _)
     have hx1:0 ≤ x ∧ x < 40:=by omega
     obtain ⟨C,hC⟩:∃ C:Nat,countS x = C:=⟨(countS x).toNat,by unfold countS; split <;> omega⟩
     have hC5:C ≤ 5:=by unfold countS at hC; split at hC <;> omega
     have hC':=Lib.hid hC
     clear hm hs hx hC
     generalize S.lst a6 c6 l6 = S6 at hm6 hs6 hF6
     go_wp2_with (refine wpList_stn rfl _ _ _ rfl (pfC ⟨x,none,[],0⟩) rfl rfl rfl file_size (pfC_one _) ?_)
     intro w7 hb7 fx7
     have hm7:=hm6.below hb7
     have hs67:=(MS.refl w6 b S6).below hb7
     have hnf:Hid (¬ kbM b S6 w6.heap.size):=Lib.hid (hm6.new (Nat.le_refl _))
     have hgB:b ≤ w6.heap.size:=hm6.bs
     have hgB':=Lib.hid hgB
     clear hm6 hb7
     generalize hg60:w6.heap.size = gf0 at hnf hgB fx7 ⊢
     have hg6:Hid (w6.heap.size ≤ gf0):=Lib.hid (Nat.le_of_eq hg60)
     clear hg60
     have hcf:=fx7.cell
     unfold pfC at hcf
     go_wp2_with fail
     refine (rcount_any x _ (by omega)).mono ?_
     rintro r w8 ⟨rfl,rfl⟩
     rw [hC'.out]
     clear hcf
     have hnp6:∀ p ∈ fi0,True:=fun _ _=>trivial
     clear hnp6
     go_upto_region 13 with (fail)
     go_loopw [78] (fun k wr => ∃ (i:Nat) (S:MW) (bk:List Page) (qu:List (Int × Page)) (xs:List Int) (xa:Option Addr) (xc:Nat),i ≤ C ∧ k = .int .i64 i ∧ MkO wr b b S ∧ MS w6 b S6 wr S ∧ Hid (¬ kbM b S gf0) ∧ Hid (Fil f s ct S3.H.asl fi0 bk qu S ∧ Fb ct bk qu (fi0.map PF.fi) xs ∧ xs.length = i) ∧ Blk wr gf0 (pfC ⟨x,xa,xs,xc⟩) 71 ∧
      Hid (Own wr b 3 1 (pfV ⟨x,xa,xs,xc⟩) xs.length (xs.map inV) ∧ ∀ g,oB xa = some g → w6.heap.size ≤ g ∧ oB S3.H.asl ≠ some g ∧ ∀ p ∈ fi0,oB p.a ≠ some g)) (fun k _=>C - (intOf k).toNat)
     case atStart=>exact ⟨0,S6,bk,qu,[],none,0,Nat.zero_le _,rfl,hm7,hs67,hnf,Lib.hid ⟨hF6.out,hI.out.2.1,rfl⟩,fx7,Lib.hid ⟨Own.nil _ _ _ _,fun g hg=>(by cases hg)⟩⟩
     case round=>
      clear hm7 fx7 hI hF6 hs67 hnf
      obtain ⟨i,S,bk,qu,xs,xa,xc,hi,rfl,hm,hs,hkf',hI,fx,ho⟩:=hrel
      by_cases hiC:i < C
      ·have hii:(i:Int) < (C:Int):=by omega
       go_upto_region 16 with (fail)
       have hkx:∀ g,(pfV ⟨x,xa,xs,xc⟩).ownBlock = some g → ¬ kbM b S g:=fun g hg=>by
        obtain ⟨cs,hk⟩:=own_blk ho.out.1 g hg
        refine hm.kb_int hk ?_
        rw [hI.out.1.asl]
        exact (ho.out.2 g (by unfold pfV at hg; rw [oB_eq] at hg; exact hg)).2.1
       have hkx':=Lib.hid hkx
       clear hkx
       go_cut [14] (fun s14 wx => ∃ (n:Nat) (a:Option Addr) (c:Nat) (l:List UInt8),s14 = .int .i64 n ∧ n < 256 ∧ MkO wx b b (S.lst a c l) ∧ MS wr b S wx (S.lst a c l) ∧ Blk wx gf0 (pfC ⟨x,xa,xs,xc⟩) 71 ∧ Hid (Own wx b 3 1 (pfV ⟨x,xa,xs,xc⟩) xs.length (xs.map inV)))
       case first=>
        go_wp2_with fail
        all_goals
         refine (rpick_any S _ b b _ hm (by omega)).mono ?_
         rintro r w8 ⟨n,a8,c8,l8,rfl,hm8,hs8,hn,_⟩
         obtain ⟨n,rfl⟩:=Int.eq_ofNat_of_zero_le hn.1
         have hn256:(n:Int) < 256:=hn.2.1
         have fx8:=hs8.blkN fx hkf'.out
         have ho8:Hid (Own w8 b 3 1 (pfV ⟨x,xa,xs,xc⟩) xs.length (xs.map inV)):=Lib.hid (hs8.ownN ho.out.1 hkx'.out)
         clear hm fx hn
         go_wp2
         go_meet
         case rel=>exact ⟨n,a8,c8,l8,rfl,by omega,hm8,hs8,fx8,ho8⟩
       case rest=>
       obtain ⟨n,a8,c8,l8,rfl,hn256,hm8,hs8,fx8,ho8'⟩:=hcut
       have ho8:Hid (Own wc b 3 1 (pfV ⟨x,xa,xs,xc⟩) xs.length (xs.map inV) ∧ ∀ g,oB xa = some g → w6.heap.size ≤ g ∧ oB S3.H.asl ≠ some g ∧ ∀ p ∈ fi0,oB p.a ≠ some g):=Lib.hid ⟨ho8'.out,ho.out.2⟩
       clear ho8'
       have hF8:Hid (Fil f s ct S3.H.asl fi0 bk qu (S.lst a8 c8 l8) ∧ Fb ct bk qu (fi0.map PF.fi) xs ∧ xs.length = i):=Lib.hid ⟨hI.out.1.lst _ _ _,hI.out.2⟩
       have hs8:=hs.trans hs8
       have hkf8:Hid (¬ kbM b (S.lst a8 c8 l8) gf0):=hkf'
       have hkx8:Hid (∀ g,(pfV ⟨x,xa,xs,xc⟩).ownBlock = some g → ¬ kbM b (S.lst a8 c8 l8) g):=hkx'
       clear hm hs hI fx ho hkf' hkx'
       generalize S.lst a8 c8 l8 = S8 at hm8 hs8 hF8 hkf8 hkx8
       go_upto_region 17 with (fail)
       go_cut [109] (fun s109 wx => ∃ (β:Bool) (a:Option Addr) (c:Nat) (l:List UInt8),s109 = .bool β ∧ MkO wx b b (S8.lst a c l) ∧ MS wc b S8 wx (S8.lst a c l) ∧ Blk wx gf0 (pfC ⟨x,xa,xs,xc⟩) 71 ∧ Hid (Own wx b 3 1 (pfV ⟨x,xa,xs,xc⟩) xs.length (xs.map inV)) ∧ Hid (β = true → n < ct ∧ ¬ (n:Int) ∈ (fi0.map PF.fi).flatMap Fi.b ++ xs))
       case first=>
        have hgf8:gf0 < wc.heap.size:=fx8.lt
        have hl8:S8.H.fi.length ≤ 5:=by
         have e1:=hF8.out.1.fi
         have e2:=hl0.out
         rw [e1]; omega
        by_cases hnc:n < ct
        ·have hdn:(n:Int) < (ct:Int):=by omega
         cases hu:usedSt (stOf (S8.H.fi ++ [(⟨x,xa,xs,xc⟩:PF)]) 0) (n:Int) with
         | true=>
          refine wp_growPQ 25 [_,_,_,_,.r 4 ((fixR fun _=>True)),_,_,_,_,_,.v (.slice S8.H.ai S8.H.fi.length S8.H.ci),.r 11 ((fixR fun _=>True)),.v (.agg (pfC ⟨x,xa,xs,xc⟩)),.r 13 ((fixR fun _=>True)),.r 14 ((fixR fun _=>True)),.r 15 ((fixR fun _=>True)),_,.v (.bool true),_,_,_,_,_,_,.v (.bool false)] (jUs S8 b b wc gf0 ⟨x,xa,xs,xc⟩) jUs_st (fun y=>jUs_0 hm8 fx8 ho8.out.1 y) (Qk jUs_st rfl (Qk jUs_st rfl (Qb jUs_st (.bool true) (by simp [go_sem,hdn]) rfl rfl rfl rfl rfl (Qk jUs_st rfl (all_cons ?_ (Qk jUs_st rfl (Qk jUs_st rfl (Qf jUs_st b 1 rfl rfl (Qf jUs_st b 8 rfl rfl (Qf jUs_st b 8 rfl rfl (all_cons ?_ (all_cons ?_ (all_cons ?_ (all_cons ?_ (all_cons ?_ (all_cons ?_ (Qk jUs_st rfl (all_cons ?_ (Qk jUs_st rfl (Qk jUs_st rfl (Qk jUs_st rfl (Qk jUs_st rfl (Qk jUs_st rfl (Qk jUs_st rfl (Qk jUs_st rfl (all_nil) (fun _ _ _ _ h=>jUs_up (by decide) h)) (fun _ _ _ _ h=>jUs_up (by decide) h)) (fun _ _ _ _ h=>jUs_up (by decide) h)) (fun _ _ _ _ h=>jUs_up (by decide) h)) (fun _ _ _ _ h=>jUs_up (by decide) h)) (fun _ _ _ _ h=>jUs_up (by decide) h)) (fun _ _ _ _ h=>jUs_up (by decide) h))) (fun _ _ _ _ h=>jUs_up (by decide) h)))))))) (fun _ _ _ _ h=>jUs_up (by decide) h)) (fun _ _ _ _ h=>jUs_up (by decide) h)) (fun _ _ _ _ h=>jUs_up (by decide) h)) (fun _ _ _ _ h=>jUs_up (by decide) h)) (fun _ _ _ _ h=>jUs_up (by decide) h))) (fun _ _ _ _ h=>jUs_up (by decide) h)) (fun _ _ _ _ h=>jUs_up (by decide) h)) (fun _ _ _ _ h=>jUs_up (by decide) h)) (fun _ _ _ _ h=>jUs_up (by decide) h)) (fun _=>rfl) rfl ?_
          ·intro ρ y W L hw hn hLi hLd hb hd
           refine asked_runQ (.slice (some ⟨W.heap.size,0,none⟩) 0 0) (want_at 3 88 true true rfl rfl ((hw 88 3 rfl).trans (hd 3 rfl))) ?_ (jUs_4 hb) trivial
           simp [execOp,go_sem]
          ·intro ρ y W L hw hn hLi hLd hb hd
           refine askQ jUs_st (fun _ _ h=>jUs_up (by decide) h) hb ?_
           have E94:=hw 94 9 rfl
           have h9:y 9 = _:=hd 9 rfl
           obtain ⟨⟨a0,c0,l0,m1,m2⟩,m3⟩:=hb
           refine asked_val (.slice S8.H.ai S8.H.fi.length S8.H.ci) (want_at 3 88 true true rfl rfl ((hw 88 3 rfl).trans (hd 3 rfl))) (by simp [execOp,go_sem,E94,h9,m1.blk.cell,mkC,MW.lst]) rfl
          ·intro ρ y W L hw hn hLi hLd hb hd; have E89:=hw 89 4 rfl; have h4:=hd 4 rfl; have E95:=hw 95 10 rfl; have h10:y 10 = _:=hd 10 rfl
           obtain ⟨g,hg1,hg2⟩:=hb.2.2.2.1 (hLd 4 rfl) hLi
           have hsz:=hb.2.2.2.2.2.2.2.1
           obtain ⟨a0,c0,l0,m1,m2⟩:=hb.1
           have m3:FsR W S8.H.ai S8.H.ci S8.H.fi:=m1.ma.rd.st
           refine asked_appQ (want_at 3 88 true true rfl rfl ((hw 88 3 rfl).trans (hd 3 rfl))) (run_app0 _ _ _ rfl wc.heap.size 71 _ 2 32 Try.underlying34 file_info rfl (by decide) g (E89.trans hg1) hg2 S8.H.ai S8.H.fi.length S8.H.ci (S8.H.fi.flatMap pfL) (E95.trans h10) m3.nl m3.le (by rw [Pw.flat_len pfL 2 pfL_len]) m3.rd (by unfold maxLen; omega) (by omega) hsz) (fun v W1 h=>jUs_11 hb h.1 h.2) (fun _ _ _=>trivial)
          ·intro ρ y W L hw hn hLi hLd hb hd
           refine askQ jUs_st (fun _ _ h=>jUs_up (by decide) h) hb ?_
           have E11:ρ (.tmp 11) = .pointer (some ⟨gf0,0,none⟩):=(hn (.tmp 11) rfl).trans rfl
           have m3:=hb.2.1
           refine asked_val (.agg (pfC ⟨x,xa,xs,xc⟩)) (want_at 3 88 true true rfl rfl ((hw 88 3 rfl).trans (hd 3 rfl))) (run_load_blk rfl E11 m3 Try.underlying71 rfl file_size) rfl
          ·intro ρ y W L hw hn hLi hLd hb hd; have E97:=hw 97 12 rfl; have h12:y 12 = _:=hd 12 rfl
           have hsz:=hb.2.2.2.2.2.2.2.1
           refine asked_runQ (.slice (some ⟨W.heap.size,0,none⟩) 1 1) (want_at 3 88 true true rfl rfl ((hw 88 3 rfl).trans (hd 3 rfl))) ?_ (jUs_13 (W':=W.alloc (.cells (pfC ⟨x,xa,xs,xc⟩) 71)) hb ((Below.refl _ _).alloc (Nat.le_refl _) _) (own_box hsz _)) trivial
           simp [execOp,go_sem,E97.trans h12,pfC]
          ·intro ρ y W L hw hn hLi hLd hb hd; have E96:=hw 96 11 rfl; have h11:=hd 11 rfl; have E98:=hw 98 13 rfl; have h13:=hd 13 rfl
           have hsz:=hb.2.2.2.2.2.2.2.1
           have hv:=hb.2.2.2.2.1 (hLd 11 rfl) hLi
           obtain ⟨a,e,hx1,k1,k2,k3,k4⟩:=(hb.2.2.2.2.2.1 (hLd 13 rfl) hLi).rd
           refine asked_appQ (want_at 3 88 true true rfl rfl ((hw 88 3 rfl).trans (hd 3 rfl))) (run_app _ _ _ rfl wc.heap.size 71 _ 2 32 Try.underlying34 file_info rfl (by decide) (y 11) S8.H.fi.length _ E96 hv a 1 e (pfL ⟨x,xa,xs,xc⟩) (E98.trans hx1) k3 k1 rfl k4 (one_toList (pfC_one _)) (by unfold maxLen; omega) (by omega) hsz) (fun v W1 h=>jUs_14 hm8 hgf8 hb (hLd 11 rfl) hLi h.2.1 h.1) (fun _ _ _=>trivial)
          ·intro ρ y W L hw hn hLi hLd hb hd; have E99:=hw 99 14 rfl; have h14:=hd 14 rfl
           obtain ⟨a,c,e14,_⟩:=used_rd hb (hLd 14 rfl)
           refine asked_runQ (.agg #[y 14,.int .i64 0]) (want_at 3 88 true true rfl rfl ((hw 88 3 rfl).trans (hd 3 rfl))) ?_ (jUs_15 (hLd 14 rfl) hb) trivial
           rw [e14] at E99 ⊢
           simp [execOp,go_sem,E99]
          ·intro ρ y W L hw hn hLi hLd hb hd; have E100:=hw 100 15 rfl; have h15:=hd 15 rfl; have E101:=hw 101 16 rfl; have h16:y 16 = _:=hd 16 rfl
           have EF:∀ f,ρ (.func f) = .func (.func f) #[] #[]:=fun f=>hn (.func f) trivial
           obtain ⟨l14,e15⟩:=hb.2.2.2.2.2.2.2.2 (hLd 15 rfl)
           obtain ⟨a,c,e14,hFs⟩:=used_rd hb l14
           rw [e15,e14] at E100
           refine asked_callQ _ _ (want_at 3 88 true true rfl rfl ((hw 88 3 rfl).trans (hd 3 rfl))) (run_call rfl (EF _) Try.func30 (by kernel_rfl) (by kernel_rfl) (by simp only [List.map_toArray,List.map_cons,List.map_nil,E100,E101,h16,EF]; rfl)) ?_
           have hus:=sused_any (S8.H.fi ++ [⟨x,xa,xs,xc⟩]) 0 n a c W hFs
           unfold stC at hus
           rw [hu] at hus
           refine hus.mono ?_
           rintro r w1 ⟨hr1,hb1⟩
           exact ⟨_,hr1,jUs_up (by decide) (jUs_st _ _ _ _ hb1 hb),rfl⟩
          intro y W9 hbW9 hRW9
          have hy4:((fixR fun _=>True)).r (y 4) W9:=hRW9 4 (by decide)
          have hy11:((fixR fun _=>True)).r (y 11) W9:=hRW9 11 (by decide)
          have hy13:((fixR fun _=>True)).r (y 13) W9:=hRW9 13 (by decide)
          have hy14:((fixR fun _=>True)).r (y 14) W9:=hRW9 14 (by decide)
          have hy15:((fixR fun _=>True)).r (y 15) W9:=hRW9 15 (by decide)
          clear hRW9
          have hbJ:=hbW9.1
          obtain ⟨a9,c9,l9,hm9,hs9⟩:=hbJ
          have fx9:=hbW9.2.1
          have ho9:=Lib.hid hbW9.2.2.1
          clear hbW9 hm8 hs8 fx8 ho8
          go_wp2
          go_meet
          case rel=>exact ⟨false,a9,c9,l9,rfl,hm9,hs9,fx9,ho9,Lib.hid fun e=>(by cases e)⟩
         | false=>
          refine wp_growPQ 25 [_,_,_,_,.r 4 ((fixR fun _=>True)),_,_,_,_,_,.v (.slice S8.H.ai S8.H.fi.length S8.H.ci),.r 11 ((fixR fun _=>True)),.v (.agg (pfC ⟨x,xa,xs,xc⟩)),.r 13 ((fixR fun _=>True)),.r 14 ((fixR fun _=>True)),.r 15 ((fixR fun _=>True)),_,.v (.bool false),_,_,_,_,.r 22 ((fixR fun v => ∃ x:Int,v = .int .i64 x)),.r 23 ((fixR fun v => ∃ u,v = .bool u)),.r 24 ((fixR fun v => ∃ u,v = .bool u))] (jUs S8 b b wc gf0 ⟨x,xa,xs,xc⟩) jUs_st (fun y=>jUs_0 hm8 fx8 ho8.out.1 y) (Qk jUs_st rfl (Qk jUs_st rfl (Qb jUs_st (.bool true) (by simp [go_sem,hdn]) rfl rfl rfl rfl rfl (Qk jUs_st rfl (all_cons ?_ (Qk jUs_st rfl (Qk jUs_st rfl (Qf jUs_st b 1 rfl rfl (Qf jUs_st b 8 rfl rfl (Qf jUs_st b 8 rfl rfl (all_cons ?_ (all_cons ?_ (all_cons ?_ (all_cons ?_ (all_cons ?_ (all_cons ?_ (Qk jUs_st rfl (all_cons ?_ (Qk jUs_st rfl (Qk jUs_st rfl (Qk jUs_st rfl (Qk jUs_st rfl (all_cons ?_ (all_cons ?_ (all_cons ?_ (all_nil)))) (fun _ _ _ _ h=>jUs_up (by decide) h)) (fun _ _ _ _ h=>jUs_up (by decide) h)) (fun _ _ _ _ h=>jUs_up (by decide) h)) (fun _ _ _ _ h=>jUs_up (by decide) h))) (fun _ _ _ _ h=>jUs_up (by decide) h)))))))) (fun _ _ _ _ h=>jUs_up (by decide) h)) (fun _ _ _ _ h=>jUs_up (by decide) h)) (fun _ _ _ _ h=>jUs_up (by decide) h)) (fun _ _ _ _ h=>jUs_up (by decide) h)) (fun _ _ _ _ h=>jUs_up (by decide) h))) (fun _ _ _ _ h=>jUs_up (by decide) h)) (fun _ _ _ _ h=>jUs_up (by decide) h)) (fun _ _ _ _ h=>jUs_up (by decide) h)) (fun _ _ _ _ h=>jUs_up (by decide) h)) (fun _=>rfl) rfl ?_
          ·intro ρ y W L hw hn hLi hLd hb hd
           refine asked_runQ (.slice (some ⟨W.heap.size,0,none⟩) 0 0) (want_at 3 88 true true rfl rfl ((hw 88 3 rfl).trans (hd 3 rfl))) ?_ (jUs_4 hb) trivial
           simp [execOp,go_sem]
          ·intro ρ y W L hw hn hLi hLd hb hd
           refine askQ jUs_st (fun _ _ h=>jUs_up (by decide) h) hb ?_
           have E94:=hw 94 9 rfl
           have h9:y 9 = _:=hd 9 rfl
           obtain ⟨⟨a0,c0,l0,m1,m2⟩,m3⟩:=hb
           refine asked_val (.slice S8.H.ai S8.H.fi.length S8.H.ci) (want_at 3 88 true true rfl rfl ((hw 88 3 rfl).trans (hd 3 rfl))) (by simp [execOp,go_sem,E94,h9,m1.blk.cell,mkC,MW.lst]) rfl
          ·intro ρ y W L hw hn hLi hLd hb hd; have E89:=hw 89 4 rfl; have h4:=hd 4 rfl; have E95:=hw 95 10 rfl; have h10:y 10 = _:=hd 10 rfl
           obtain ⟨g,hg1,hg2⟩:=hb.2.2.2.1 (hLd 4 rfl) hLi
           have hsz:=hb.2.2.2.2.2.2.2.1
           obtain ⟨a0,c0,l0,m1,m2⟩:=hb.1
           have m3:FsR W S8.H.ai S8.H.ci S8.H.fi:=m1.ma.rd.st
           refine asked_appQ (want_at 3 88 true true rfl rfl ((hw 88 3 rfl).trans (hd 3 rfl))) (run_app0 _ _ _ rfl wc.heap.size 71 _ 2 32 Try.underlying34 file_info rfl (by decide) g (E89.trans hg1) hg2 S8.H.ai S8.H.fi.length S8.H.ci (S8.H.fi.flatMap pfL) (E95.trans h10) m3.nl m3.le (by rw [Pw.flat_len pfL 2 pfL_len]) m3.rd (by unfold maxLen; omega) (by omega) hsz) (fun v W1 h=>jUs_11 hb h.1 h.2) (fun _ _ _=>trivial)
          ·intro ρ y W L hw hn hLi hLd hb hd
           refine askQ jUs_st (fun _ _ h=>jUs_up (by decide) h) hb ?_
           have E11:ρ (.tmp 11) = .pointer (some ⟨gf0,0,none⟩):=(hn (.tmp 11) rfl).trans rfl
           have m3:=hb.2.1
           refine asked_val (.agg (pfC ⟨x,xa,xs,xc⟩)) (want_at 3 88 true true rfl rfl ((hw 88 3 rfl).trans (hd 3 rfl))) (run_load_blk rfl E11 m3 Try.underlying71 rfl file_size) rfl
          ·intro ρ y W L hw hn hLi hLd hb hd; have E97:=hw 97 12 rfl; have h12:y 12 = _:=hd 12 rfl
           have hsz:=hb.2.2.2.2.2.2.2.1
           refine asked_runQ (.slice (some ⟨W.heap.size,0,none⟩) 1 1) (want_at 3 88 true true rfl rfl ((hw 88 3 rfl).trans (hd 3 rfl))) ?_ (jUs_13 (W':=W.alloc (.cells (pfC ⟨x,xa,xs,xc⟩) 71)) hb ((Below.refl _ _).alloc (Nat.le_refl _) _) (own_box hsz _)) trivial
           simp [execOp,go_sem,E97.trans h12,pfC]
          ·intro ρ y W L hw hn hLi hLd hb hd; have E96:=hw 96 11 rfl; have h11:=hd 11 rfl; have E98:=hw 98 13 rfl; have h13:=hd 13 rfl
           have hsz:=hb.2.2.2.2.2.2.2.1
           have hv:=hb.2.2.2.2.1 (hLd 11 rfl) hLi
           obtain ⟨a,e,hx1,k1,k2,k3,k4⟩:=(hb.2.2.2.2.2.1 (hLd 13 rfl) hLi).rd
           refine asked_appQ (want_at 3 88 true true rfl rfl ((hw 88 3 rfl).trans (hd 3 rfl))) (run_app _ _ _ rfl wc.heap.size 71 _ 2 32 Try.underlying34 file_info rfl (by decide) (y 11) S8.H.fi.length _ E96 hv a 1 e (pfL ⟨x,xa,xs,xc⟩) (E98.trans hx1) k3 k1 rfl k4 (one_toList (pfC_one _)) (by unfold maxLen; omega) (by omega) hsz) (fun v W1 h=>jUs_14 hm8 hgf8 hb (hLd 11 rfl) hLi h.2.1 h.1) (fun _ _ _=>trivial)
          ·intro ρ y W L hw hn hLi hLd hb hd; have E99:=hw 99 14 rfl; have h14:=hd 14 rfl
           obtain ⟨a,c,e14,_⟩:=used_rd hb (hLd 14 rfl)
           refine asked_runQ (.agg #[y 14,.int .i64 0]) (want_at 3 88 true true rfl rfl ((hw 88 3 rfl).trans (hd 3 rfl))) ?_ (jUs_15 (hLd 14 rfl) hb) trivial
           rw [e14] at E99 ⊢
           simp [execOp,go_sem,E99]
          ·intro ρ y W L hw hn hLi hLd hb hd; have E100:=hw 100 15 rfl; have h15:=hd 15 rfl; have E101:=hw 101 16 rfl; have h16:y 16 = _:=hd 16 rfl
           have EF:∀ f,ρ (.func f) = .func (.func f) #[] #[]:=fun f=>hn (.func f) trivial
           obtain ⟨l14,e15⟩:=hb.2.2.2.2.2.2.2.2 (hLd 15 rfl)
           obtain ⟨a,c,e14,hFs⟩:=used_rd hb l14
           rw [e15,e14] at E100
           refine asked_callQ _ _ (want_at 3 88 true true rfl rfl ((hw 88 3 rfl).trans (hd 3 rfl))) (run_call rfl (EF _) Try.func30 (by kernel_rfl) (by kernel_rfl) (by simp only [List.map_toArray,List.map_cons,List.map_nil,E100,E101,h16,EF]; rfl)) ?_
           have hus:=sused_any (S8.H.fi ++ [⟨x,xa,xs,xc⟩]) 0 n a c W hFs
           unfold stC at hus
           rw [hu] at hus
           refine hus.mono ?_
           rintro r w1 ⟨hr1,hb1⟩
           exact ⟨_,hr1,jUs_up (by decide) (jUs_st _ _ _ _ hb1 hb),rfl⟩
          ·intro ρ y W L hw hn hLi hLd hb hd; have E106:=hw 106 21 rfl; have h21:y 21 = _:=hd 21 rfl
           have EC:∀ v,ρ (.const v) = v:=fun v=>hn (.const v) trivial
           have EF:∀ f,ρ (.func f) = .func (.func f) #[] #[]:=fun f=>hn (.func f) trivial
           refine asked_callQ _ _ (want_at 20 105 true true rfl rfl ((hw 105 20 rfl).trans (hd 20 rfl))) (run_call rfl (EF _) Try.func28 (by kernel_rfl) (by kernel_rfl) (by simp only [List.map_toArray,List.map_cons,List.map_nil,E106,h21,EC,EF]; rfl)) ?_
           exact jUs_pick (by decide) hm8 hkf8.out hkx8.out 3 (by omega) hb fun x _ _ _=>⟨x,rfl⟩
          ·intro ρ y W L hw hn hLi hLd hb hd
           refine askQ jUs_st (fun _ _ h=>jUs_up (by decide) h) hb ?_
           have E107:=hw 107 22 rfl
           have h22:=hd 22 rfl
           obtain ⟨x,hx⟩:=h22
           refine asked_val _ (want_at 20 105 true true rfl rfl ((hw 105 20 rfl).trans (hd 20 rfl))) (run_bin rfl (E107.trans hx) (hn (.const _) trivial) (by simp [go_sem]; rfl)) ⟨_,rfl⟩
          ·intro ρ y W L hw hn hLi hLd hb hd
           refine askQ jUs_st (fun _ _ h=>jUs_up (by decide) h) hb ?_
           have E105:=hw 105 20 rfl
           have h20:y 20 = _:=hd 20 rfl
           have E108:=hw 108 23 rfl
           have h23:=hd 23 rfl
           obtain ⟨u,hu9⟩:=h23
           refine asked_val (.bool u) (want_free rfl) (run_pick rfl (E105.trans h20) (by simpa using E108.trans hu9)) ⟨_,rfl⟩
          intro y W9 hbW9 hRW9
          have hy4:((fixR fun _=>True)).r (y 4) W9:=hRW9 4 (by decide)
          have hy11:((fixR fun _=>True)).r (y 11) W9:=hRW9 11 (by decide)
          have hy13:((fixR fun _=>True)).r (y 13) W9:=hRW9 13 (by decide)
          have hy14:((fixR fun _=>True)).r (y 14) W9:=hRW9 14 (by decide)
          have hy15:((fixR fun _=>True)).r (y 15) W9:=hRW9 15 (by decide)
          have hy22:((fixR fun v => ∃ x:Int,v = .int .i64 x)).r (y 22) W9:=hRW9 22 (by decide)
          have hy23:((fixR fun v => ∃ u,v = .bool u)).r (y 23) W9:=hRW9 23 (by decide)
          have hy24:((fixR fun v => ∃ u,v = .bool u)).r (y 24) W9:=hRW9 24 (by decide)
          clear hRW9
          have hbJ:=hbW9.1
          obtain ⟨a9,c9,l9,hm9,hs9⟩:=hbJ
          have fx9:=hbW9.2.1
          have ho9:=Lib.hid hbW9.2.2.1
          obtain ⟨β,hβ⟩:=hy24
          rw [hβ]
          clear hbW9 hm8 hs8 fx8 ho8 hβ
          have hnu:Hid (n < ct ∧ ¬ (n:Int) ∈ (fi0.map PF.fi).flatMap Fi.b ++ xs):=Lib.hid ⟨hnc,fun hmem=>by
           have e1:=hF8.out.1.fi
           unfold usedSt at hu
           rw [blks_of,e1] at hu
           have h2:¬ (n:Int) ∈ pblks (fi0 ++ [(⟨x,xa,xs,xc⟩:PF)]):=of_decide_eq_false hu
           refine h2 ?_
           unfold pblks
           rw [List.flatMap_append]
           rcases List.mem_append.1 hmem with h3 | h3
           ·rw [List.flatMap_map] at h3
            exact List.mem_append_left _ h3
           ·exact List.mem_append_right _ (by simpa using h3)⟩
          go_wp2
          go_meet
          case rel=>exact ⟨β,a9,c9,l9,rfl,hm9,hs9,fx9,ho9,Lib.hid fun _=>hnu.out⟩
        ·have hdn:¬ (n:Int) < (ct:Int):=by omega
         refine wp_growP 25 [_,_,_,_,_,_,_,_,_,_,_,_,_,_,_,_,_,_,_,_,_,_,_,_,.v (.bool false)] (Gk rfl (Gk rfl (Gb (.bool false) (by simp [go_sem,hdn]) rfl rfl rfl rfl rfl (Gk rfl (Gk rfl (Gk rfl (Gk rfl (Gk rfl (Gk rfl (Gk rfl (Gk rfl (Gk rfl (Gk rfl (Gk rfl (Gk rfl (Gk rfl (Gk rfl (Gk rfl (Gk rfl (Gk rfl (Gk rfl (Gk rfl (Gk rfl (Gk rfl (Gk rfl (all_nil)))))))))))))))))))))))))) (fun _=>rfl) rfl ?_
         intro y W9 hbW9 _
         have hm9:=hm8.below hbW9
         have hs9:=(MS.refl wc b S8).below hbW9
         have fx9:=fx8.ext hbW9
         have ho9:=Lib.hid (ho8.out.1.below hbW9)
         clear hbW9 hm8 fx8 ho8
         go_wp2
         go_meet
         case rel=>exact ⟨false,S8.al,S8.cl,S8.l,rfl,hm9,hs9,fx9,ho9,Lib.hid fun e=>(by cases e)⟩
       case rest=>
       obtain ⟨β,a9,c9,l9,rfl,hm9,hs9,fx9,ho9,hβ⟩:=hcut
       have hap:=Lib.hid ho8.out.2
       have hs9:=hs8.trans hs9
       have hF9:Hid (Fil f s ct S3.H.asl fi0 bk qu (S8.lst a9 c9 l9) ∧ Fb ct bk qu (fi0.map PF.fi) xs ∧ xs.length = i):=Lib.hid ⟨hF8.out.1.lst _ _ _,hF8.out.2⟩
       have hkf9:Hid (¬ kbM b (S8.lst a9 c9 l9) gf0):=hkf8
       have hkx9:Hid (∀ g,(pfV ⟨x,xa,xs,xc⟩).ownBlock = some g → ¬ kbM b (S8.lst a9 c9 l9) g):=hkx8
       clear hm8 hs8 hF8 fx8 ho8 hkf8 hkx8
       generalize S8.lst a9 c9 l9 = S9 at hm9 hs9 hF9 hkf9 hkx9
       go_upto_if 109 with (fail)
       have hF8l:Hid (xs.length = i):=Lib.hid hF9.out.2.2
       have hF10l:Hid (xs.length ≤ C):=Lib.hid (by have:=hF9.out.2.2; omega)
       go_cut [13] (fun s13 wx => ∃ (v:Int) (S:MW) (bk:List Page) (qu:List (Int × Page)),s13 = .int .i64 v ∧ MkO wx b b S ∧ MS w6 b S6 wx S ∧ Hid (¬ kbM b S gf0) ∧ Hid (Fil f s ct S3.H.asl fi0 bk qu S ∧ Fb ct bk qu (fi0.map PF.fi) (xs ++ [v])) ∧ Blk wx gf0 (pfC ⟨x,xa,xs,xc⟩) 71 ∧ Hid (Own wx b 3 1 (pfV ⟨x,xa,xs,xc⟩) xs.length (xs.map inV)))
       case first=>
        cases β with
        | false=>
         go_wp2
         go_meet
         case rel=>exact ⟨-1,S9,bk,qu,rfl,hm9,hs9,hkf9,Lib.hid ⟨hF9.out.1,hF9.out.2.1.none⟩,fx9,ho9⟩
        | true=>
         have hnn:=Lib.hid (hβ.out rfl)
         clear hβ
         go_wp2_with fail
         refine (rpage_any S9 b b _ hm9).mono ?_
         rintro r w10 ⟨P,a10,c10,l10,rfl,hm10,hs10⟩
         have fx10:=hs10.blkN fx9 hkf9.out
         have ho10:Hid (Own w10 b 3 1 (pfV ⟨x,xa,xs,xc⟩) xs.length (xs.map inV)):=Lib.hid (hs10.ownN ho9.out hkx9.out)
         have hs10:=hs9.trans hs10
         have hF10:Hid (Fil f s ct S3.H.asl fi0 bk qu (S9.lst a10 c10 l10) ∧ Fb ct bk qu (fi0.map PF.fi) xs ∧ xs.length = i):=Lib.hid ⟨hF9.out.1.lst _ _ _,hF9.out.2⟩
         have hkf10:Hid (¬ kbM b (S9.lst a10 c10 l10) gf0):=hkf9
         have hkx10:Hid (∀ g,(pfV ⟨x,xa,xs,xc⟩).ownBlock = some g → ¬ kbM b (S9.lst a10 c10 l10) g):=hkx9
         clear hm9 hs9 hF9 fx9 ho9 hkf9 hkx9
         generalize S9.lst a10 c10 l10 = S10 at hm10 hs10 hF10 hkf10 hkx10
         go_wp2_with (refine wpList_stn rfl _ _ _ rfl (pgC P) rfl rfl rfl psize (pgC_one P) ?_)
         intro w11 hb11 px11
         have hm11:=hm10.below hb11
         have hs11:=hs10.below hb11
         have fx11:=fx10.ext hb11
         have ho11:Hid (Own w11 b 3 1 (pfV ⟨x,xa,xs,xc⟩) xs.length (xs.map inV)):=Lib.hid (ho10.out.below hb11)
         have hnp:=Lib.hid (hm10.new (Nat.le_refl _))
         have hp0:=Lib.hid hs10.size
         have hpB:b ≤ w10.heap.size:=hm10.bs
         have hpf:Hid (w10.heap.size ≠ gf0):=Lib.hid (fun e=>by have:=fx10.lt; omega)
         clear hm10 hs10 fx10 ho10 hb11
         generalize w10.heap.size = gp at *
         go_upto_region 21 with (fail)
         go_loopw [113] (fun j wr => ∃ k:Nat,k ≤ 8 ∧ j = .int .i64 k ∧ MkO wr b b S10 ∧ MS w6 b S6 wr S10 ∧ Blk wr gp (pgC (cutTo P (x - (i:Int) * 8) k)) 50 ∧ Blk wr gf0 (pfC ⟨x,xa,xs,xc⟩) 71 ∧ Hid (Own wr b 3 1 (pfV ⟨x,xa,xs,xc⟩) xs.length (xs.map inV))) (fun j _=>8 - (intOf j).toNat)
         case atStart=>exact ⟨0,by omega,rfl,hm11,hs11,by rw [show cutTo P (x - (i:Int) * 8) 0 = P from by ext j hj; simp [cutTo]]; exact px11,fx11,ho11⟩
         case round=>
          clear hm11 hs11 px11 fx11 ho11
          obtain ⟨k,hk,rfl,hm,hs,px,fx,ho⟩:=hrel
          by_cases hk8:k < 8
          ·have hki:(k:Int) < 8:=by omega
           have hcf:=fx.cell
           unfold pfC at hcf
           have hw1:IntKind.i64.wrap (8 * (i:Int)) = 8 * (i:Int):=IntWalk.i64_in _ (by omega)
           have hw2:IntKind.i64.wrap (8 * (i:Int) + (k:Int)) = 8 * (i:Int) + (k:Int):=IntWalk.i64_in _ (by omega)
           by_cases hge:x ≤ 8 * (i:Int) + k
           ·have hset:Hid ((pgC (cutTo P (x - (i:Int) * 8) k)).setIfInBounds k (.int .u8 0) = pgC (cutTo P (x - (i:Int) * 8) (k + 1))):=Lib.hid (by
             rw [← cutTo_set P _ k hk8 (by omega)]; exact pgC_set _ k hk8 0)
            generalize hT:cutTo P (x - (i:Int) * 8) k = T at px hset
            clear hT
            go_wp2_with (refine wpList_stv rfl _ _ _ rfl gp k _ [.int .u8 0] rfl rfl rfl _ _ px (by show k + 1 ≤ 8; omega) (by kernel_rfl) (fun u hu=>by cases List.mem_singleton.1 hu; rfl) ?_)
            intro w12 px12 hg12
            rw [putAt_one,hset.out] at px12
            have hm12:=hm.locT px (by decide) hnp.out hpB hg12
            have hs12:=hs.loc hg12 hp0.out
            have fx12:=fx.grown hg12 (fun e=>hpf.out (by have:=Option.some.inj e; omega))
            have ho12:Hid (Own w12 b 3 1 (pfV ⟨x,xa,xs,xc⟩) xs.length (xs.map inV)):=Lib.hid (own_keep ho.out px (by decide) hg12)
            clear hm hs px hg12 hcf fx ho
            go_wp2
            go_roundw
            case rel=>exact ⟨k + 1,by omega,by go_num,hm12,hs12,px12,fx12,ho12⟩
            case measure=>simp [intOf]; omega
           ·have hset:cutTo P (x - (i:Int) * 8) k = cutTo P (x - (i:Int) * 8) (k + 1):=by
             ext j hj
             simp only [cutTo,Vector.getElem_ofFn]
             by_cases e:x - (i:Int) * 8 ≤ (j:Int)
             ·rw [if_neg (by omega),if_neg (by omega)]
             ·rw [if_neg (by omega),if_neg (by omega)]
            rw [hset] at px
            clear hset
            go_wp2
            go_roundw
            case rel=>exact ⟨k + 1,by omega,by go_num,hm,hs,px,fx,ho⟩
            case measure=>simp [intOf]; omega
          ·have hki:¬ (k:Int) < 8:=by omega
           rw [cutTo_end _ _ k (by omega)] at px
           generalize cutPage P (x - (i:Int) * 8) = PC at px
           have hncn:n < ct:=hnn.out.1
           have hdl:S10.H.dk.blocks.length = ct:=by rw [hF10.out.1.dk]; exact hF10.out.2.1.cl.1
           obtain ⟨g,off,cap,cur,hv,hgB,hg,hgs,hgc,hgw⟩:=hm.ma.dk.b.put pgL_len (by decide) n (by rw [hdl]; exact hncn)
           have hdb:S10.H.db = some ⟨g,off,none⟩:=(Value.slice.inj hv).1
           have hgw':=Lib.hid hgw
           have hdl':=Lib.hid hdl
           have hdb':=Lib.hid hdb
           have hpg:Hid (gp ≠ g):=Lib.hid (fun e=>hnp.out (by rw [e]; exact .inr (by simp only [klM,hdb]; simp [oB,Value.ownBlock])))
           have hfg:Hid (gf0 ≠ g):=Lib.hid (fun e=>hkf10.out (by rw [e]; exact .inr (by simp only [klM,hdb]; simp [oB,Value.ownBlock])))
           have hkg:Hid (kbM b S10 g):=Lib.hid (.inr (by simp only [klM,hdb]; simp [oB,Value.ownBlock]))
           clear hv hgc hgw hdl hdb
           go_upto_region 26 with (fail)
           refine wp_growP 9 [_,_,_,_,_,_,_,_,_] (Gk rfl (Gk rfl (Gf b 1 rfl rfl (Gf b 6 rfl rfl (Gf b 6 rfl rfl (Gl hm.blk (V:=.slice (some ⟨g,off,none⟩) ct S10.H.cdb) (by simp [mkC,hdb'.out,hdl'.out]) rfl rfl rfl rfl (Gk rfl (Gr (.agg #[.int .u8 PC[0].toNat,.int .u8 PC[1].toNat,.int .u8 PC[2].toNat,.int .u8 PC[3].toNat,.int .u8 PC[4].toNat,.int .u8 PC[5].toNat,.int .u8 PC[6].toNat,.int .u8 PC[7].toNat]) (fun ρ y W hb hk=>(run_load_rd rfl (kx_at rfl hk) (blk_part (px.ext hb) 0 8) Try.underlying50 rfl (by kernel_rfl))) rfl rfl (Gr (.pointer (some ⟨g,off + n * 8,none⟩)) (fun ρ y W hb hk=>(run_idx rfl (kx_at rfl hk) (kx_at rfl hk) hncn Try.underlying30 psize)) rfl rfl (all_nil)))))))))) (fun _=>rfl) rfl ?_
           intro y W13 hbW13 _
           have hm13:=hm.below hbW13
           have hs13:=hs.below hbW13
           have px13:=px.ext hbW13
           have fx13:=fx.ext hbW13
           have ho13:=Lib.hid (ho.out.below hbW13)
           have hg13:=hg.ext hbW13
           clear hm hs px fx ho hg hbW13
           go_wp2_with (refine wpList_stv rfl _ _ _ rfl g (off + n * 8) _ (pgL PC) rfl rfl rfl _ _ hg13 (by show off + n * 8 + 8 ≤ cur.size; omega) (by kernel_rfl) (one_toList (pgC_one PC)) ?_)
           intro w14 hb14 hg14
           have hpo:=hgw'.out _ PC hb14
           have hm14:MkO w14 b b { S10 with H:={ S10.H with dk:=⟨S10.H.dk.blocks.set n PC,S10.H.dk.queue⟩ } }:=hm13.putD hg13 hgB (by rw [hdb'.out]; rfl) hg14 (l:=S10.H.dk.blocks.set n PC) (by simp) (by simpa using hpo)
           have hs14:MS w6 b S6 w14 { S10 with H:={ S10.H with dk:=⟨S10.H.dk.blocks.set n PC,S10.H.dk.queue⟩ } }:=hs13.put hg14 hkg.out (fun x hx => .inl hx)
           have px14:=px13.grown hg14 (fun e=>hpg.out (Option.some.inj e).symm)
           have fx14:=fx13.grown hg14 (fun e=>hfg.out (Option.some.inj e).symm)
           have ho14:Hid (Own w14 b 3 1 (pfV ⟨x,xa,xs,xc⟩) xs.length (xs.map inV)):=Lib.hid (own_keep ho13.out hg13 (by decide) hg14)
           have hF14:Hid (Fil f s ct S3.H.asl fi0 (bk.set n PC) qu { S10 with H:={ S10.H with dk:=⟨S10.H.dk.blocks.set n PC,S10.H.dk.queue⟩ } }):=Lib.hid (by
            have h9:=hF10.out.1
            exact ⟨h9.m,h9.asl,h9.sl,h9.sw,by show (⟨S10.H.dk.blocks.set n PC,S10.H.dk.queue⟩:Dsk) = _; rw [h9.dk],h9.fi,h9.ct,h9.ca,h9.sp,h9.T⟩)
           have hkf14:Hid (¬ kbM b { S10 with H:={ S10.H with dk:=⟨S10.H.dk.blocks.set n PC,S10.H.dk.queue⟩ } } gf0):=hkf10
           have hnp14:Hid (¬ kbM b { S10 with H:={ S10.H with dk:=⟨S10.H.dk.blocks.set n PC,S10.H.dk.queue⟩ } } gp):=hnp
           have hkx14:Hid (∀ g,(pfV ⟨x,xa,xs,xc⟩).ownBlock = some g → ¬ kbM b { S10 with H:={ S10.H with dk:=⟨S10.H.dk.blocks.set n PC,S10.H.dk.queue⟩ } } g):=hkx10
           clear hm13 hs13 px13 fx13 ho13 hg13 hpo hb14 hg14
           generalize { S10 with H:={ S10.H with dk:=⟨S10.H.dk.blocks.set n PC,S10.H.dk.queue⟩ } } = S14 at hm14 hs14 hF14 hkf14 hnp14 hkx14
           go_wp2_with fail
           refine (rpick_any S14 2 b b _ hm14 (by omega)).mono ?_
           rintro r w15 ⟨z,a15,c15,l15,rfl,hm15,hs15,hz,_⟩
           have fx15:=hs15.blkN fx14 hkf14.out
           have px15:=hs15.blkN px14 hnp14.out
           have ho15:Hid (Own w15 b 3 1 (pfV ⟨x,xa,xs,xc⟩) xs.length (xs.map inV)):=Lib.hid (hs15.ownN ho14.out hkx14.out)
           have hs15:=hs14.trans hs15
           have hF15:Hid (Fil f s ct S3.H.asl fi0 (bk.set n PC) qu (S14.lst a15 c15 l15)):=Lib.hid (hF14.out.lst _ _ _)
           have hkf15:Hid (¬ kbM b (S14.lst a15 c15 l15) gf0):=hkf14
           have hnp15:Hid (¬ kbM b (S14.lst a15 c15 l15) gp):=hnp14
           have hkx15:Hid (∀ g,(pfV ⟨x,xa,xs,xc⟩).ownBlock = some g → ¬ kbM b (S14.lst a15 c15 l15) g):=hkx14
           clear hm14 hs14 fx14 px14 ho14 hF14 hkf14 hnp14 hkx14
           generalize S14.lst a15 c15 l15 = S15 at hm15 hs15 hF15 hkf15 hnp15 hkx15
           by_cases hz1:z = 1
           ·subst hz1
            have hql:S15.H.dk.queue.length ≤ 100:=by
             have h1:=hF10.out.2.1.ql
             have h2:=hF10.out.2.2
             have h3:=hl0.out
             rw [hF15.out.dk]
             rw [List.length_map] at h1
             show qu.length ≤ 100
             omega
            have hnb:Hid (∀ g,(Value.slice S15.H.dq S15.H.dk.queue.length S15.H.cdq).ownBlock = some g → g ≠ b ∧ ∀ t ∈ [(gp,pgC PC,50),(gf0,pfC ⟨x,xa,xs,xc⟩,71)],t.1 ≠ g):=Lib.hid (fun g hg=>by
             obtain ⟨cs,hk⟩:=own_blk hm15.ma.dk.q g hg
             refine ⟨fun e=>blk_ne hk hm15.blk (by decide) e,fun t ht => ?_⟩
             simp only [List.mem_cons,List.not_mem_nil,or_false] at ht
             rcases ht with rfl | rfl
             ·exact blk_ne px15 hk (by decide)
             ·exact blk_ne fx15 hk (by decide))
            have hks:Hid (∀ t ∈ [(gp,pgC PC,50),(gf0,pfC ⟨x,xa,xs,xc⟩,71)],Blk w15 t.1 t.2.1 t.2.2):=Lib.hid (fun t ht=>by
             simp only [List.mem_cons,List.not_mem_nil,or_false] at ht
             rcases ht with rfl | rfl
             ·exact px15
             ·exact fx15)
            go_upto_region 28 with (fail)
            refine wp_growPQ 16 [_,_,_,_,_,_,.v (.slice S15.H.dq S15.H.dk.queue.length S15.H.cdq),_,.v (.agg (pgC PC)),.v (.agg (puC ((n:Int),PC))),.r 10 ((fixR fun _=>True)),.r 11 ((fixR fun _=>True)),_,_,_,_] (jOne S15 b b w15 [(gp,pgC PC,50),(gf0,pfC ⟨x,xa,xs,xc⟩,71)] 11 10 93 9 S15.H.dk.queue.length (.slice S15.H.dq S15.H.dk.queue.length S15.H.cdq) (S15.H.dk.queue.flatMap puL) (puL ((n:Int),PC))) jOne_st (fun y=>jOne_0 hm15 hks.out y) (Qk jOne_st rfl (Qk jOne_st rfl (Qk jOne_st rfl (Qf jOne_st b 1 rfl rfl (Qf jOne_st b 6 rfl rfl (Qf jOne_st b 7 rfl rfl (all_cons ?_ (Qk jOne_st rfl (all_cons ?_ (all_cons ?_ (all_cons ?_ (all_cons ?_ (Qk jOne_st rfl (Qf jOne_st b 1 rfl rfl (Qf jOne_st b 6 rfl rfl (Qf jOne_st b 7 rfl rfl (all_nil) (fun _ _ _ _ h=>jOne_up (by decide) h)) (fun _ _ _ _ h=>jOne_up (by decide) h)) (fun _ _ _ _ h=>jOne_up (by decide) h)) (fun _ _ _ _ h=>jOne_up (by decide) h)))))) (fun _ _ _ _ h=>jOne_up (by decide) h))) (fun _ _ _ _ h=>jOne_up (by decide) h)) (fun _ _ _ _ h=>jOne_up (by decide) h)) (fun _ _ _ _ h=>jOne_up (by decide) h)) (fun _ _ _ _ h=>jOne_up (by decide) h)) (fun _ _ _ _ h=>jOne_up (by decide) h)) (fun _ _ _ _ h=>jOne_up (by decide) h)) (fun _=>rfl) rfl ?_
            ·intro ρ y W L hw hn hLi hLd hb hd
             refine askQ jOne_st (fun _ _ h=>jOne_up (by decide) h) hb ?_
             have E143:=hw 143 5 rfl
             have h5:y 5 = _:=hd 5 rfl
             have m1:=hb.1.1
             refine asked_val (.slice S15.H.dq S15.H.dk.queue.length S15.H.cdq) (want_free rfl) (by simp [execOp,go_sem,E143,h5,m1.cell,mkC]) rfl
            ·intro ρ y W L hw hn hLi hLd hb hd
             refine askQ jOne_st (fun _ _ h=>jOne_up (by decide) h) hb ?_
             have E15:ρ (.tmp 15) = .pointer (some ⟨gp,0,none⟩):=(hn (.tmp 15) rfl).trans rfl
             have m3:=hb.1.2 _ List.mem_cons_self
             refine asked_val (.agg (pgC PC)) (want_free rfl) (run_load_blk rfl E15 m3 Try.underlying50 rfl psize) rfl
            ·intro ρ y W L hw hn hLi hLd hb hd
             refine askQ jOne_st (fun _ _ h=>jOne_up (by decide) h) hb ?_
             have E145:=hw 145 7 rfl
             have h7:y 7 = _:=hd 7 rfl
             have E146:=hw 146 8 rfl
             have h8:y 8 = _:=hd 8 rfl
             refine asked_val (.agg (puC ((n:Int),PC))) (want_free rfl) (by simp [execOp,go_sem,E145,h7,E146,h8,pgC,puC]) rfl
            ·intro ρ y W L hw hn hLi hLd hb hd; have E147:=hw 147 9 rfl; have h9:y 9 = _:=hd 9 rfl
             refine asked_runQ (.slice (some ⟨W.heap.size,0,none⟩) 1 1) (want_free rfl) ?_ (jOne_q (W':=W.alloc (.cells (puC ((n:Int),PC)) 93)) (by decide) ((Below.refl _ _).alloc (Nat.le_refl _) _) hb ⟨Nat.le_refl _,by unfold maxLen; omega,fun e=>(by cases e),RdV.new _ _ _⟩) trivial
             simp [execOp,go_sem,E147.trans h9,puC]
            ·intro ρ y W L hw hn hLi hLd hb hd; have E144:=hw 144 6 rfl; have h6:y 6 = _:=hd 6 rfl; have E148:=hw 148 10 rfl; have h10:=hd 10 rfl
             have hm:=(hb.2.1 hLi).1
             obtain ⟨a,e,hx1,hx2⟩:=hb.2.2.1 (hLd 10 rfl) hLi
             have hpv:Own W b 93 9 (.slice S15.H.dq S15.H.dk.queue.length S15.H.cdq) S15.H.dk.queue.length (S15.H.dk.queue.flatMap puL):=hm.ma.dk.q
             refine asked_appQ (want_free rfl) (run_app _ _ _ rfl b 93 _ 9 16 Try.underlying31 put_info rfl (by decide) (.slice S15.H.dq S15.H.dk.queue.length S15.H.cdq) S15.H.dk.queue.length _ (E144.trans h6) hpv a 1 e (puL ((n:Int),PC)) (E148.trans hx1) hx2.nl hx2.le rfl hx2.rd (one_toList (puC_one _)) (by unfold maxLen; omega) (by omega) hm.bs) (fun v W1 h=>jOne_p hLi hb h.2.1 hnb.out h.1 h.2.2) (fun _ _ _=>trivial)
            intro y W16 hbW16 hRW16
            have hy10:((fixR fun _=>True)).r (y 10) W16:=hRW16 10 (by decide)
            have hy11:((fixR fun _=>True)).r (y 11) W16:=hRW16 11 (by decide)
            clear hRW16
            obtain ⟨wq,hmq,hsq,hgq,hoq,hsnq⟩:=hbW16.2.2.2 rfl
            have hbk16:=hbW16.1.1
            have fx16:Blk W16 gf0 (pfC ⟨x,xa,xs,xc⟩) 71:=hbW16.1.2 _ (List.mem_cons_of_mem _ List.mem_cons_self)
            have ho16:Hid (Own W16 b 3 1 (pfV ⟨x,xa,xs,xc⟩) xs.length (xs.map inV)):=Lib.hid (by
             have h1:=hsq.ownN ho15.out hkx15.out
             rcases grow_T hmq.ma.dk.q hgq with hb0 | ⟨g,cs,hk,_,hg'⟩
             ·exact h1.below hb0
             ·exact own_keep h1 hk (by decide) hg')
            have hsq':=Lib.hid hsq
            have hs16:=hs15.trans hsq
            obtain ⟨aq,cq,hyq,_⟩:=hoq.rd
            rw [hyq] at hoq hsnq ⊢
            clear hyq hbW16 hm15 hs15 px15 fx15 ho15 hsq hks hnb
            go_wp2_with (refine wpList_stv rfl _ _ _ rfl b 7 _ [.slice aq (S15.H.dk.queue.length + 1) cq] rfl rfl rfl _ _ hbk16 (by show 7 + 1 ≤ 13; omega) (by kernel_rfl) (fun u hu=>by cases List.mem_singleton.1 hu; rfl) ?_)
            intro w17 hb17 hg17
            have hlen:(S15.H.dk.queue ++ [((n:Int),PC)]).length = S15.H.dk.queue.length + 1:=by simp
            have hoq' : Own W16 b 93 9 (.slice aq (S15.H.dk.queue ++ [((n:Int),PC)]).length cq) (S15.H.dk.queue ++ [((n:Int),PC)]).length ((S15.H.dk.queue ++ [((n:Int),PC)]).flatMap puL):=by
             rw [hlen,List.flatMap_append]; simpa using hoq
            have hm17:=hmq.appQ hgq hoq' (by rw [hlen]; exact hb17) hg17
            have hn17:∀ x,kbM b { S15 with H:={ S15.H with dq:=aq,cdq:=cq,dk:=⟨S15.H.dk.blocks,S15.H.dk.queue ++ [((n:Int),PC)]⟩ } } x → kbM b S15 x ∨ oB aq = some x:=fun x hx=>by
             rcases hx with hx | hx
             ·exact .inl (.inl hx)
             ·simp only [klM,List.mem_cons,List.not_mem_nil,or_false] at hx
              rcases hx with hx | hx | hx | hx | hx | hx | hx | hx | hx <;> first | exact .inr hx.symm | exact .inl (.inr (by simp [klM,hx]))
            have hs17:=hs16.app hmq hmq.ma.dk.q (by simp [klM]) hgq hg17 hsnq hn17
            have hqN:Hid (¬ kbM b { S15 with H:={ S15.H with dq:=aq,cdq:=cq,dk:=⟨S15.H.dk.blocks,S15.H.dk.queue ++ [((n:Int),PC)]⟩ } } gf0):=Lib.hid (fun hk=>(hn17 gf0 hk).elim hkf15.out fun e=>blk_ne (own_oB hoq' e).2.choose_spec fx16 (by decide) rfl)
            have fx17:=fx16.grown hg17 (fun e=>hkf15.out (.inl (Option.some.inj e).symm))
            have ho17:Hid (Own w17 b 3 1 (pfV ⟨x,xa,xs,xc⟩) xs.length (xs.map inV)):=Lib.hid (own_keep ho16.out hbk16 (by decide) hg17)
            have hF17:Hid (Fil f s ct S3.H.asl fi0 (bk.set n PC) (qu ++ [((n:Int),PC)]) { S15 with H:={ S15.H with dq:=aq,cdq:=cq,dk:=⟨S15.H.dk.blocks,S15.H.dk.queue ++ [((n:Int),PC)]⟩ } } ∧ Fb ct (bk.set n PC) (qu ++ [((n:Int),PC)]) (fi0.map PF.fi) (xs ++ [(n:Int)])):=Lib.hid (by
             have h9:=hF15.out
             exact ⟨⟨h9.m,h9.asl,h9.sl,h9.sw,by show (⟨S15.H.dk.blocks,S15.H.dk.queue ++ [((n:Int),PC)]⟩:Dsk) = _; rw [h9.dk],h9.fi,h9.ct,h9.ca,h9.sp,h9.T⟩,hF10.out.2.1.wait hnn.out.1 hnn.out.2 PC⟩)
            clear hmq hgq hoq hsnq hbk16 fx16 ho16 hs16 hb17 hlen hoq' hg17 hn17
            go_wp2
            go_meet
            case rel=>exact ⟨(n:Int),_,_,_,rfl,hm17,hs17,hqN,hF17,fx17,ho17⟩
           ·have hF17:Hid (Fil f s ct S3.H.asl fi0 (bk.set n PC) qu S15 ∧ Fb ct (bk.set n PC) qu (fi0.map PF.fi) (xs ++ [(n:Int)])):=Lib.hid ⟨hF15.out,hF10.out.2.1.some hnn.out.1 hnn.out.2 PC⟩
            go_wp2
            go_meet
            case rel=>exact ⟨(n:Int),S15,_,_,rfl,hm15,hs15,hkf15,hF17,fx15,ho15⟩
       case rest=>
       obtain ⟨v,S,bk,qu,rfl,hm,hs,hkf,hF,fx,ho⟩:=hcut
       clear hm9 hs9 hF9 fx9 ho9 hkf9 hkx9
       have hcf:=fx.cell
       unfold pfC at hcf
       have hF':=Lib.hid hF.out.2
       have hxl:xs.length ≤ 100:=by
        have h1:=hF10l.out
        omega
       have hlw:=Lib.hid hxl
       go_wp2_with (at_builtin; go_must (refine wpList_appC rfl _ _ 28 rfl b 3 (.int .i64 0) 1 8 Try.underlying28 int_info rfl (by decide) (pfV ⟨x,xa,xs,xc⟩) xs.length (xs.map inV) rfl (ho.out.alloc _) (some ⟨wc.heap.size,0,none⟩) 1 1 [inV v] rfl (fun h=>(by cases h)) (Nat.le_refl _) rfl (RdV.new _ #[inV v] _) (by simp [inV,Value.oneCell']) (by unfold maxLen; omega) (by omega) (le_alloc' hm.bs _) ?_))
       intro v2 w2 own2 hg2 hsn2
       have hal:=(Below.refl wc.heap.size wc).alloc (Nat.le_refl _) (.cells #[inV v] 3)
       have hm1:=hm.below hal
       have hs1:=hs.below hal
       have fx1:=fx.ext hal
       have ho1:Own (wc.alloc (.cells #[inV v] 3)) b 3 1 (.slice xa xs.length xc) xs.length (xs.map inV):=ho.out.below hal
       obtain ⟨a2,c2,hv2,_⟩:=own2.rd
       rw [hv2] at own2 hsn2 ⊢
       have hge2:Hid (∀ g,oB a2 = some g → w6.heap.size ≤ g ∧ oB S3.H.asl ≠ some g ∧ ∀ p ∈ fi0,oB p.a ≠ some g):=Lib.hid (fun g hg=>by
        rcases hsn2 with e1 | e1
        ·unfold pfV at e1
         rw [oB_eq,oB_eq] at e1
         exact hap.out g (by rw [← e1]; exact hg)
        ·have h1:=e1 g (by rw [oB_eq]; exact hg)
         refine ⟨Nat.le_trans hs1.size h1,fun e => ?_,fun p hp e => ?_⟩
         ·exact absurd h1 (Nat.not_le.2 (own_oB hm1.ma.sl (by rw [hF.out.1.asl]; exact e)).2.choose_spec.lt)
         ·rw [← hF.out.1.fi] at hp
          obtain ⟨k,hk,rfl⟩:=List.mem_iff_getElem.1 hp
          exact absurd h1 (Nat.not_le.2 (own_oB (hm1.ma.st.each k _ (List.getElem?_eq_getElem hk)) e).2.choose_spec.lt))
       have hm2:MkO w2 b b S:=by
        rcases grow_T ho1 hg2 with hb0 | ⟨g,cs,hk,hga,hg'⟩
        ·exact hm1.below hb0
        ·exact hm1.locI hk (hm1.kb_int hk (by rw [hF.out.1.asl]; exact (hap.out g hga).2.1)) (by rw [hF.out.1.fi]; exact (hap.out g hga).2.2) (own_oB ho1 hga).1 hg'
       have hs2:MS w6 b S6 w2 S:=by
        rcases grow_T ho1 hg2 with hb0 | ⟨g,cs,hk,hga,hg'⟩
        ·exact hs1.below hb0
        ·exact hs1.loc hg' (hap.out g hga).1
       have fx2:Blk w2 gf0 (pfC ⟨x,xa,xs,xc⟩) 71:=by
        rcases grow_T ho1 hg2 with hb0 | ⟨g,cs,hk,hga,hg'⟩
        ·exact fx1.ext hb0
        ·exact blk_keep fx1 hk (by decide) hg'
       clear hcf hm hs fx hm1 hs1 fx1 ho1 hg2 hsn2 hal ho hv2
       go_wp2_with (refine wpList_stv rfl _ _ _ rfl gf0 1 _ [.slice a2 (xs.length + 1) c2] rfl rfl rfl _ _ fx2 (by show 1 + 1 ≤ 2; omega) (by kernel_rfl) (fun u hu=>by cases List.mem_singleton.1 hu; rfl) ?_)
       intro w3 hb3 hg3
       have hxl1:(xs ++ [v]).length = xs.length + 1:=by simp
       have fx3:Blk w3 gf0 (pfC ⟨x,a2,xs ++ [v],c2⟩) 71:=by
        have e:pfC ⟨x,a2,xs ++ [v],c2⟩ = putAt (pfC ⟨x,xa,xs,xc⟩) 1 [.slice a2 (xs.length + 1) c2]:=by
         unfold pfC
         dsimp only
         rw [hxl1]
         kernel_rfl
        rw [e]; exact hb3
       have hm3:=hm2.locT fx2 (by decide) hkf.out hgB hg3
       have hs3:=hs2.loc hg3 hg6.out
       have ho3:Hid (Own w3 b 3 1 (pfV ⟨x,a2,xs ++ [v],c2⟩) (xs ++ [v]).length ((xs ++ [v]).map inV) ∧ ∀ g,oB a2 = some g → w6.heap.size ≤ g ∧ oB S3.H.asl ≠ some g ∧ ∀ p ∈ fi0,oB p.a ≠ some g):=Lib.hid ⟨by
        have h1:=own_keep own2 fx2 (by decide) hg3
        unfold pfV
        dsimp only
        rw [hxl1,List.map_append]
        exact h1,hge2.out⟩
       have hF3:Hid (Fil f s ct S3.H.asl fi0 bk qu S ∧ Fb ct bk qu (fi0.map PF.fi) (xs ++ [v]) ∧ (xs ++ [v]).length = i + 1):=Lib.hid ⟨hF.out.1,hF.out.2,by rw [hxl1,hF8l.out]⟩
       clear hm2 hs2 fx2 own2 hb3 hg3 hxl1 hxl
       go_wp2
       go_roundw
       case rel=>exact ⟨i + 1,S,bk,qu,xs ++ [v],a2,c2,by omega,by go_num,hm3,hs3,hkf,hF3,fx3,ho3⟩
       case measure=>simp [intOf]; omega
      ·have hii:¬ (i:Int) < (C:Int):=by omega
       have hiC' : i = C:=by omega
       subst hiC'
       have hfl5:S.H.fi.length ≤ 5:=by rw [hI.out.1.fi]; have:=hl0.out; omega
       have hkaf:∀ g,(Value.slice S.H.ai S.H.fi.length S.H.ci).ownBlock = some g → kbM b S g:=fun g hg => .inr (by rw [oB_eq] at hg; simp [klM,hg])
       have hnb:Hid (∀ g,(Value.slice S.H.ai S.H.fi.length S.H.ci).ownBlock = some g → g ≠ b ∧ ∀ t ∈ [(gf0,pfC ⟨x,xa,xs,xc⟩,71)],t.1 ≠ g):=Lib.hid (fun g hg=>by
        obtain ⟨cs,hk⟩:=own_blk hm.ma.st.own g hg
        refine ⟨fun e=>blk_ne hk hm.blk (by decide) e,fun t ht => ?_⟩
        rw [List.mem_singleton.1 ht]
        intro e
        exact hkf'.out (by rw [show gf0 = g from e]; exact hkaf g hg))
       have hks:Hid (∀ t ∈ [(gf0,pfC ⟨x,xa,xs,xc⟩,71)],Blk wr t.1 t.2.1 t.2.2):=Lib.hid (fun t ht=>by rw [List.mem_singleton.1 ht]; exact fx)
       go_upto_region 31 with (fail)
       refine wp_growPQ 14 [_,_,_,_,_,_,.v (.slice S.H.ai S.H.fi.length S.H.ci),.v (.agg (pfC ⟨x,xa,xs,xc⟩)),.r 8 ((fixR fun _=>True)),.r 9 ((fixR fun _=>True)),_,_,_,_] (jOne S b b wr [(gf0,pfC ⟨x,xa,xs,xc⟩,71)] 9 8 71 2 S.H.fi.length (.slice S.H.ai S.H.fi.length S.H.ci) (S.H.fi.flatMap pfL) (pfL ⟨x,xa,xs,xc⟩)) jOne_st (fun y=>jOne_0 hm hks.out y) (Qk jOne_st rfl (Qk jOne_st rfl (Qk jOne_st rfl (Qf jOne_st b 1 rfl rfl (Qf jOne_st b 8 rfl rfl (Qf jOne_st b 8 rfl rfl (all_cons ?_ (all_cons ?_ (all_cons ?_ (all_cons ?_ (Qk jOne_st rfl (Qf jOne_st b 1 rfl rfl (Qf jOne_st b 8 rfl rfl (Qf jOne_st b 8 rfl rfl (all_nil) (fun _ _ _ _ h=>jOne_up (by decide) h)) (fun _ _ _ _ h=>jOne_up (by decide) h)) (fun _ _ _ _ h=>jOne_up (by decide) h)) (fun _ _ _ _ h=>jOne_up (by decide) h)))))) (fun _ _ _ _ h=>jOne_up (by decide) h)) (fun _ _ _ _ h=>jOne_up (by decide) h)) (fun _ _ _ _ h=>jOne_up (by decide) h)) (fun _ _ _ _ h=>jOne_up (by decide) h)) (fun _ _ _ _ h=>jOne_up (by decide) h)) (fun _ _ _ _ h=>jOne_up (by decide) h)) (fun _=>rfl) rfl ?_
       ·intro ρ y W L hw hn hLi hLd hb hd
        refine askQ jOne_st (fun _ _ h=>jOne_up (by decide) h) hb ?_
        have E166:=hw 166 5 rfl
        have h5:y 5 = _:=hd 5 rfl
        have m1:=hb.1.1
        refine asked_val (.slice S.H.ai S.H.fi.length S.H.ci) (want_free rfl) (by simp [execOp,go_sem,E166,h5,m1.cell,mkC]) rfl
       ·intro ρ y W L hw hn hLi hLd hb hd
        refine askQ jOne_st (fun _ _ h=>jOne_up (by decide) h) hb ?_
        have E11:ρ (.tmp 11) = .pointer (some ⟨gf0,0,none⟩):=(hn (.tmp 11) rfl).trans rfl
        have m3:=hb.1.2 _ List.mem_cons_self
        refine asked_val (.agg (pfC ⟨x,xa,xs,xc⟩)) (want_free rfl) (run_load_blk rfl E11 m3 Try.underlying71 rfl file_size) rfl
       ·intro ρ y W L hw hn hLi hLd hb hd; have E168:=hw 168 7 rfl; have h7:y 7 = _:=hd 7 rfl
        refine asked_runQ (.slice (some ⟨W.heap.size,0,none⟩) 1 1) (want_free rfl) ?_ (jOne_q (W':=W.alloc (.cells (pfC ⟨x,xa,xs,xc⟩) 71)) (by decide) ((Below.refl _ _).alloc (Nat.le_refl _) _) hb ⟨Nat.le_refl _,by unfold maxLen; omega,fun e=>(by cases e),RdV.new _ _ _⟩) trivial
        simp [execOp,go_sem,E168.trans h7,pfC]
       ·intro ρ y W L hw hn hLi hLd hb hd; have E167:=hw 167 6 rfl; have h6:y 6 = _:=hd 6 rfl; have E169:=hw 169 8 rfl; have h8:=hd 8 rfl
        have hm:=(hb.2.1 hLi).1
        obtain ⟨a,e,hx1,hx2⟩:=hb.2.2.1 (hLd 8 rfl) hLi
        have hpv:Own W b 71 2 (.slice S.H.ai S.H.fi.length S.H.ci) S.H.fi.length (S.H.fi.flatMap pfL):=hm.ma.st.own
        refine asked_appQ (want_free rfl) (run_app _ _ _ rfl b 71 _ 2 32 Try.underlying34 file_info rfl (by decide) (.slice S.H.ai S.H.fi.length S.H.ci) S.H.fi.length _ (E167.trans h6) hpv a 1 e (pfL ⟨x,xa,xs,xc⟩) (E169.trans hx1) hx2.nl hx2.le rfl hx2.rd (one_toList (pfC_one _)) (by unfold maxLen; omega) (by omega) hm.bs) (fun v W1 h=>jOne_p hLi hb h.2.1 hnb.out h.1 h.2.2) (fun _ _ _=>trivial)
       intro y W8 hbW8 hRW8
       have hy8:((fixR fun _=>True)).r (y 8) W8:=hRW8 8 (by decide)
       have hy9:((fixR fun _=>True)).r (y 9) W8:=hRW8 9 (by decide)
       clear hRW8
       obtain ⟨wq,hmq,hsq,hgq,hoq,hsnq⟩:=hbW8.2.2.2 rfl
       have hbk8:=hbW8.1.1
       have hoxq:=hsq.ownN ho.out.1 (fun g hg=>by
        obtain ⟨cs,hk⟩:=own_blk ho.out.1 g hg
        refine hm.kb_int hk ?_
        rw [hI.out.1.asl]
        exact (ho.out.2 g (by unfold pfV at hg; rw [oB_eq] at hg; exact hg)).2.1)
       have hs8:=hs.trans hsq
       obtain ⟨aq,cq,hyq,_⟩:=hoq.rd
       rw [hyq] at hoq hsnq ⊢
       clear hyq hbW8 hm hs fx hsq hks hnb hkaf
       go_wp2_with (refine wpList_stv rfl _ _ _ rfl b 8 _ [.slice aq (S.H.fi.length + 1) cq] rfl rfl rfl _ _ hbk8 (by show 8 + 1 ≤ 13; omega) (by kernel_rfl) (fun u hu=>by cases List.mem_singleton.1 hu; rfl) ?_)
       intro w17 hb17 hg17
       have hlen:(S.H.fi ++ [(⟨x,xa,xs,xc⟩:PF)]).length = S.H.fi.length + 1:=by simp
       have hm17:MkO w17 b b { S with H:={ S.H with ai:=aq,ci:=cq,fi:=S.H.fi ++ [(⟨x,xa,xs,xc⟩:PF)] } }:=hmq.appFi (p:=⟨x,xa,xs,xc⟩) hoxq (fun k p hp g hg hg'=>by
         unfold pfV at hg hg'
         rw [oB_eq] at hg hg'
         exact (ho.out.2 g hg').2.2 p (by rw [← hI.out.1.fi]; exact List.mem_of_getElem? hp) hg) (fun g hg=>by rw [hI.out.1.asl]; exact (ho.out.2 g hg).2.1) hgq (by rw [hlen]; exact hoq) (by rw [hlen]; exact hb17) hg17
       have hs17:MS w6 b S6 w17 { S with H:={ S.H with ai:=aq,ci:=cq,fi:=S.H.fi ++ [(⟨x,xa,xs,xc⟩:PF)] } }:=hs8.app hmq hmq.ma.st.own (by simp [klM]) hgq hg17 hsnq (fun x hx=>by
        rcases hx with hx | hx
        ·exact .inl (.inl hx)
        ·simp only [klM,List.mem_cons,List.not_mem_nil,or_false] at hx
         rcases hx with hx | hx | hx | hx | hx | hx | hx | hx | hx <;> first | exact .inr hx.symm | exact .inl (.inr (by simp [klM,hx])))
       have hs17:=hs6.trans hs17
       have hI17:Hid (Fil f s ct S3.H.asl (S.H.fi ++ [(⟨x,xa,xs,xc⟩:PF)]) bk qu { S with H:={ S.H with ai:=aq,ci:=cq,fi:=S.H.fi ++ [(⟨x,xa,xs,xc⟩:PF)] } } ∧ Fb ct bk qu ((S.H.fi ++ [(⟨x,xa,xs,xc⟩:PF)]).map PF.fi) [] ∧ (S.H.fi ++ [(⟨x,xa,xs,xc⟩:PF)]).length = q + 1 ∧ (q + 1 = 0 → bk = List.replicate ct zPg ∧ qu = [] ∧ (l = [] → S.l = []))):=Lib.hid (by
        have h9:=hI.out.1
        refine ⟨⟨h9.m,h9.asl,h9.sl,h9.sw,h9.dk,rfl,h9.ct,h9.ca,h9.sp,h9.T⟩,?_,by rw [hlen,h9.fi,hl0q.out],fun e=>absurd e (by omega)⟩
        rw [List.map_append,h9.fi]
        exact hI.out.2.1.file (s:=x) (by omega) (by omega) (by rw [hI.out.2.2,hC'.out]))
       clear hmq hgq hoq hsnq hbk8 hoxq hs8 hb17 hlen hg17
       go_wp2
       go_roundw
       case rel=>exact ⟨q + 1,_,bk,qu,by omega,by go_num,hm17,hs17,hI17⟩
       case measure=>simp [intOf]; omega
    ·have hqi:¬ (q:Int) < (N:Int):=by omega
     have hbd:Hid (Bd S.H.ma S.T ∧ FiM S ∧ S.H.sp.length = 0 ∧ S.H.m.fs.length = f ∧ S.H.dk.blocks.length = ct ∧ (l = [] → S.l = [] ∧ S.H.ma = mk0 f s ct (List.replicate ct zPg) [] [] ∧ S.T = [])):=Lib.hid (by
      obtain ⟨h1,h2,h3,h4⟩:=hI.out
      refine ⟨by rw [h1.ma,h1.T]; exact h2.bd (by rw [List.length_map]; omega) hf40 hs60,fun p hp=>(by rw [h1.sp] at hp; cases hp),by rw [h1.sp]; rfl,by rw [h1.m]; exact List.length_replicate,by rw [h1.dk]; exact h2.cl.1,fun e => ?_⟩
      have hN0:=(hl5.out e).1
      have hq0:q = 0:=by omega
      obtain ⟨k1,k2,k3⟩:=h4 hq0
      refine ⟨k3 e,?_,h1.T⟩
      have hf0:fi0 = []:=List.length_eq_zero_iff.1 (by omega)
      rw [h1.ma,k1,k2,hf0]; rfl)
     clear hI
     go_wp2_with fail
     refine (rpick_any S 2 b b _ hm (by omega)).mono ?_
     rintro r w6 ⟨z,a6,c6,l6,rfl,hm6,hs6,hz,hz0⟩
     have hs6:=hs.trans hs6
     have hzw:IntKind.i64.wrap (1 + z) = 1 + z:=IntWalk.i64_in _ (by omega)
     obtain ⟨M,hM⟩:∃ M:Nat,1 + z = (M:Int):=⟨(1 + z).toNat,by omega⟩
     have hM2:1 ≤ M ∧ M ≤ 2:=by omega
     have hbd6:Hid (Bd (S.lst a6 c6 l6).H.ma (S.lst a6 c6 l6).T ∧ FiM (S.lst a6 c6 l6) ∧ (S.lst a6 c6 l6).H.sp.length = 0 ∧ (S.lst a6 c6 l6).H.m.fs.length = f ∧ (S.lst a6 c6 l6).H.dk.blocks.length = ct ∧ (l = [] → (S.lst a6 c6 l6).l = [] ∧ (S.lst a6 c6 l6).H.ma = mk0 f s ct (List.replicate ct zPg) [] [] ∧ (S.lst a6 c6 l6).T = [])):=Lib.hid
      ⟨hbd.out.1,hbd.out.2.1,hbd.out.2.2.1,hbd.out.2.2.2.1,hbd.out.2.2.2.2.1,fun e=>⟨(hz0 (hbd.out.2.2.2.2.2 e).1).2,(hbd.out.2.2.2.2.2 e).2⟩⟩
     have hM1:Hid (l = [] → M = 1):=Lib.hid (fun e=>by have:=(hz0 (hbd.out.2.2.2.2.2 e).1).1; omega)
     rw [hM] at hzw
     clear hm hs hbd hz hz0
     generalize S.lst a6 c6 l6 = S6 at hm6 hs6 hbd6
     go_upto_region 34 with (fail)
     clear hM hzw
     go_loopw [179] (fun k wr => ∃ (p:Nat) (S:MW),p ≤ M ∧ k = .int .i64 p ∧ MkO wr b b S ∧ MS w4 b S3 wr S ∧ Hid (Bd S.H.ma S.T ∧ FiM S ∧ S.H.sp.length = p ∧ S.H.m.fs.length = f ∧ S.H.dk.blocks.length = ct ∧ (l = [] → S.l = [] ∧ ((p = 0 → S.H.ma = mk0 f s ct (List.replicate ct zPg) [] [] ∧ S.T = []) ∧ (p = 1 → S.H.ma = { mk0 f s ct (List.replicate ct zPg) [] [] with sp:=[⟨true,[],zTb⟩] } ∧ S.T = [List.replicate 64 zEn]))))) (fun k _=>M - (intOf k).toNat)
     case atStart=>exact ⟨0,S6,Nat.zero_le _,rfl,hm6,hs6,Lib.hid ⟨hbd6.out.1,hbd6.out.2.1,hbd6.out.2.2.1,hbd6.out.2.2.2.1,hbd6.out.2.2.2.2.1,fun e=>⟨(hbd6.out.2.2.2.2.2 e).1,fun _=>(hbd6.out.2.2.2.2.2 e).2,fun h=>(by cases h)⟩⟩⟩
     case round=>
      clear hm6 hs6 hbd6
      obtain ⟨p,S,hp,rfl,hm,hs,hI⟩:=hrel
      by_cases hpM:p < M
      ·have hpi:(p:Int) < (M:Int):=by omega
       have hmoreR:∀ (S' : MW),More S S' → (l = [] → p = 0 → S'.l = [] ∧ S'.H.ma = { S.H.ma with sp:=S.H.ma.sp ++ [⟨true,[],zTb⟩] } ∧ S'.T = S.T ++ [List.replicate 64 zEn]) → Bd S'.H.ma S'.T ∧ FiM S' ∧ S'.H.sp.length = p + 1 ∧ S'.H.m.fs.length = f ∧ S'.H.dk.blocks.length = ct ∧ (l = [] → S'.l = [] ∧ ((p + 1 = 0 → S'.H.ma = mk0 f s ct (List.replicate ct zPg) [] [] ∧ S'.T = []) ∧ (p + 1 = 1 → S'.H.ma = { mk0 f s ct (List.replicate ct zPg) [] [] with sp:=[⟨true,[],zTb⟩] } ∧ S'.T = [List.replicate 64 zEn]))):=fun S' hMo hn=>by
        obtain ⟨h1,h2,h3,h4,h5,h6⟩:=hI.out
        refine ⟨hMo.bd,hMo.fm,by rw [hMo.sp,h3],by rw [hMo.fs,h4],by rw [hMo.dk,h5],fun e => ?_⟩
        have hp0:p = 0:=by have:=hM1.out e; omega
        obtain ⟨k1,k2,k3⟩:=hn e hp0
        obtain ⟨q1,q2⟩:=(h6 e).2.1 hp0
        refine ⟨k1,fun h=>absurd h (by omega),fun _=>⟨by rw [k2,q1]; rfl,by rw [k3,q2]; rfl⟩⟩
       have hmoreR':=Lib.hid hmoreR
       clear hmoreR
       by_cases hp1:p = 1
       ·subst hp1
        go_wp2_with fail
        refine (rpick_any S 2 b b _ hm (by omega)).mono ?_
        rintro r w7 ⟨z2,a7,c7,l7,rfl,hm7,hs7,hz2,_⟩
        have hs7:=hs.trans hs7
        clear hm hs
        by_cases hz1:z2 = 1
        ·subst hz1
         go_wp2_with fail
         refine (rfork_any (S.lst a7 c7 l7) b b _ hm7 hI.out.1 hI.out.2.1 hI.out.2.2.1).mono ?_
         rintro r w8 ⟨S8,rfl,hm8,hs8,hMo⟩
         have hs8:=hs7.trans hs8
         have hI8:=Lib.hid (hmoreR'.out S8 ⟨hMo.bd,hMo.fm,hMo.fi,hMo.ct,hMo.dk,hMo.sp,hMo.fs⟩ (fun _ h=>absurd h (by decide)))
         clear hm7 hs7 hMo hI
         go_wp2
         go_roundw
         case rel=>exact ⟨2,S8,by omega,by go_num,hm8,hs8,hI8⟩
         case measure=>simp [intOf]; omega
        ·have hzb:(z2 == 1) = false:=by simpa using hz1
         go_wp2_with fail
         refine (rspace_any (S.lst a7 c7 l7) b b _ hm7 hI.out.1 hI.out.2.1 (by have:=hI.out.2.2.1; show S.H.sp.length < 4; omega)).mono ?_
         rintro r w8 ⟨S8,rfl,hm8,hs8,hMo,_⟩
         have hs8:=hs7.trans hs8
         have hI8:=Lib.hid (hmoreR'.out S8 ⟨hMo.bd,hMo.fm,hMo.fi,hMo.ct,hMo.dk,hMo.sp,hMo.fs⟩ (fun _ h=>absurd h (by decide)))
         clear hm7 hs7 hMo hI
         go_wp2
         go_roundw
         case rel=>exact ⟨2,S8,by omega,by go_num,hm8,hs8,hI8⟩
         case measure=>simp [intOf]; omega
       ·have hp0:p = 0:=by omega
        subst hp0
        go_wp2_with fail
        refine (rspace_any S b b _ hm hI.out.1 hI.out.2.1 (by have:=hI.out.2.2.1; omega)).mono ?_
        rintro r w8 ⟨S8,rfl,hm8,hs8,hMo,hnil⟩
        have hs8:=hs.trans hs8
        have hI8:=Lib.hid (hmoreR'.out S8 hMo (fun e _=>hnil (hI.out.2.2.2.2.2 e).1))
        clear hm hs hMo hI hnil
        go_wp2
        go_roundw
        case rel=>exact ⟨0 + 1,S8,by omega,by go_num,hm8,hs8,Lib.hid ⟨hI8.out.1,hI8.out.2.1,hI8.out.2.2.1,hI8.out.2.2.2.1,hI8.out.2.2.2.2.1,fun e=>⟨(hI8.out.2.2.2.2.2 e).1,(hI8.out.2.2.2.2.2 e).2.1,fun _=>(hI8.out.2.2.2.2.2 e).2.2 (by first | trivial | rfl)⟩⟩⟩
        case measure=>simp [intOf]; omega
      ·have hpi:¬ (p:Int) < (M:Int):=by omega
       have hpe:M = p:=by omega
       subst hpe
       have hT6:Hid (Bd S.H.ma S.T ∧ S.T.length = M ∧ S.H.ma.sp.length = M):=Lib.hid (by
        have h1:=hI.out.2.2.1
        have h2:S.H.ma.sp.length = S.H.sp.length:=List.length_map _
        exact ⟨hI.out.1,by rw [hI.out.1.ok.len]; omega,by omega⟩)
       have hI0:Hid (S.H.ma = tabs S.H.ma S.T 0 ∧ S.T = S.T ∧ S.H.sp.length = M ∧ FiM S ∧ S.H.m.fs.length = f ∧ S.H.dk.blocks.length = ct ∧ (l = [] → S.l = [])):=Lib.hid ⟨rfl,rfl,hI.out.2.2.1,hI.out.2.1,hI.out.2.2.2.1,hI.out.2.2.2.2.1,fun e=>(hI.out.2.2.2.2.2 e).1⟩
       have hnew:Hid (l = [] → fullM S.H.ma S.T = newMa f s ct):=Lib.hid (fun e=>by
        obtain ⟨k1,k2⟩:=(hI.out.2.2.2.2.2 e).2.2 (hM1.out e)
        rw [k1,k2]; exact full_new hf40 hs60 hc80)
       obtain ⟨m5,hm5⟩:∃ m,S.H.ma = m:=⟨_,rfl⟩
       obtain ⟨T5,hT5⟩:∃ T,S.T = T:=⟨_,rfl⟩
       have hI1:Hid (S.H.ma = tabs m5 T5 0 ∧ S.T = T5 ∧ S.H.sp.length = M ∧ FiM S ∧ S.H.m.fs.length = f ∧ S.H.dk.blocks.length = ct ∧ (l = [] → S.l = [])):=Lib.hid (by rw [← hm5,← hT5]; exact hI0.out)
       rw [hm5,hT5] at hT6 hnew
       have hspl:S.H.sp.length = M:=hI.out.2.2.1
       clear hI hI0 hm5 hT5
       have hc:=hm.blk.cell
       unfold mkC at hc
       rw [hspl] at hc
       clear hspl
       go_upto_region 41 with (fail)
       clear hc
       go_loopw [200] (fun k wr => ∃ (q:Nat) (S:MW),q ≤ M ∧ k = .int .i64 q ∧ MkO wr b b S ∧ MS w4 b S3 wr S ∧ Hid (S.H.ma = tabs m5 T5 q ∧ S.T = T5 ∧ S.H.sp.length = M ∧ FiM S ∧ S.H.m.fs.length = f ∧ S.H.dk.blocks.length = ct ∧ (l = [] → S.l = []))) (fun k _=>M - (intOf k).toNat)
       case atStart=>exact ⟨0,S,Nat.zero_le _,rfl,hm,hs,hI1⟩
       case round=>
        clear hm hs hI1
        obtain ⟨q,S,hq,rfl,hm,hs,hI⟩:=hrel
        by_cases hqM:q < M
        ·have hqi:(q:Int) < (M:Int):=by omega
         obtain ⟨P,hP⟩:∃ P,S.H.sp[q]? = some P:=⟨_,List.getElem?_eq_getElem (by rw [hI.out.2.2.1]; exact hqM)⟩
         obtain ⟨g,off,cur0,hap,_,_,_,_⟩:=hm.setTb hP
         have hTl:S.T.length = M:=by rw [hI.out.2.1]; exact hT6.out.2.1
         obtain ⟨gt,ot,ct',curt,hvt,_,hgt,hgts,hgtc,_⟩:=hm.tt.put tL_len (by decide) q (by omega)
         have hab:S.ab = some ⟨gt,ot,none⟩:=(Value.slice.inj hvt).1
         have h64:(lstT T5 q).length = 64:=hT6.out.1.ok.l64 (by rw [hT6.out.2.2]; exact hqM)
         have hTq:S.T[q]'(by omega) = lstT T5 q:=by rw [← MkO.lst_len (by omega),hI.out.2.1]
         have hrdT:∀ W,Below wr.heap.size wr W → RdV W (some ⟨gt,ot + q * 192,none⟩) (flC (lstT T5 q)).toList:=fun W hb j u hj=>by
          refine ⟨gt,ot + q * 192,rfl,?_⟩
          have e1:=hgtc j u (by rw [hTq,tL_fl h64]; exact hj)
          rw [hgt.cell] at e1
          rw [(hgt.ext hb).cell]; exact e1
         have hsp':=Lib.hid hI.out.2.2.1
         have hTl':=Lib.hid hTl
         have hap':=Lib.hid hap
         have hab':=Lib.hid hab
         have h64':=Lib.hid h64
         have hsz64:(flC (lstT T5 q)).toList.length = 192:=by rw [Array.length_toList,flC_size,h64]
         have hsz':=Lib.hid hsz64
         have hP':=Lib.hid hP
         have hrdT':=Lib.hid hrdT
         clear hvt hgtc hTq hTl hap hab h64 hsz64 hP hrdT hgt hgts
         go_upto_region 43 with (fail)
         refine wp_growP 16 [_,_,_,_,_,_,_,_,_,_,_,_,_,.r 13 ((tabO b (tabOf (lstT T5 q)))),_,_] (Gk rfl (Gk rfl (Gf b 1 rfl rfl (Gf b 11 rfl rfl (Gl hm.blk (V:=.slice (some ⟨g,off,none⟩) M S.H.cp) (by simp [mkC,hap'.out,hsp'.out]) rfl rfl rfl rfl (Gk rfl (Gk rfl (Gk rfl (Gf b 12 rfl rfl (Gl hm.blk (V:=.slice (some ⟨gt,ot,none⟩) M S.cb) (by simp [mkC,hab'.out,hTl'.out]) rfl rfl rfl rfl (Gk rfl (Gr (.pointer (some ⟨gt,ot + q * 192,none⟩)) (fun ρ y W hb hk=>(run_idx rfl (kx_at rfl hk) (kx_at rfl hk) hqM Try.underlying87 arr64_size)) rfl rfl (Gr (.agg (flC (lstT T5 q))) (fun ρ y W hb hk=>(run_load_rd rfl (kx_at rfl hk) (hrdT'.out W hb) Try.underlying95 rfl (arr64_size.trans (congrArg some hsz'.out.symm)))) rfl rfl (all_cons ?_ (Gr (.pointer (some ⟨g,off + q * 10,none⟩)) (fun ρ y W hb hk=>(run_idx rfl (kx_at rfl hk) (kx_at rfl hk) hqM Try.underlying38 space_size)) rfl rfl (Gf g (off + q * 10 + 2) rfl rfl (all_nil))))))))))))))))) (fun _=>rfl) rfl ?_
         ·intro ρ y W hw hn hb hd; have E215:=hw 215 12 rfl; have h12:y 12 = _:=hd 12 rfl
          have EF:∀ f,ρ (.func f) = .func (.func f) #[] #[]:=fun f=>hn (.func f) trivial
          refine asked_call _ _ (want_free rfl) (run_call rfl (EF _) Try.func34 (by kernel_rfl) (by kernel_rfl) (by simp only [List.map_toArray,List.map_cons,List.map_nil,E215,h12,EF]; rfl)) ?_
          refine (ttable_any (lstT T5 q) W h64'.out).mono ?_
          rintro e w1 ⟨ca,rfl,hO,hb1⟩
          exact ⟨_,rfl,hb1,⟨_,rfl,hO.mono (hm.below hb).bs⟩⟩
         intro y W9 hbW9 hRW9
         have hy13:=hRW9 13 (by decide)
         clear hRW9
         obtain ⟨cs,hy13e,hTO⟩:∃ cs,y 13 = .agg cs ∧ TbO W9 b cs (tabOf (lstT T5 q)):=hy13
         obtain ⟨v,rfl⟩:=ts_of hTO.sz
         rw [hy13e]
         have hm9:=hm.below hbW9
         have hs9:=hs.below hbW9
         clear hm hs hbW9 hy13e
         obtain ⟨g2,off2,cur,hap2,hgB2,hblk2,hfit2,hset2⟩:=hm9.setTb hP'.out
         rw [hap'.out] at hap2
         obtain ⟨rfl,rfl⟩:g = g2 ∧ off = off2:=by
          have:=Option.some.inj hap2
          exact ⟨congrArg Addr.block this,congrArg Addr.off this⟩
         have hkb9:kbM b S g:=.inr (by simp [klM,hap'.out,oB,Value.ownBlock])
         clear hap2
         go_wp2_with (refine wpList_stv rfl _ _ _ rfl g (off + q * 10 + 2) _ (tsC v).toList rfl rfl rfl _ _ hblk2 (by show off + q * 10 + 2 + 8 ≤ cur.size; exact hfit2) (by kernel_rfl) (ts_one hTO.rd) ?_)
         intro w10 hb10 hg10
         have hm10:=hset2 w10 v _ hTO hb10 hg10
         have hs10:MS w4 b S3 w10 { S with H:={ S.H with sp:=S.H.sp.set q { P with ts:=v,tb:=tabOf (lstT T5 q) } } }:=hs9.put hg10 hkb9 (fun x hx => .inl hx)
         have hI10:Hid (({ S with H:={ S.H with sp:=S.H.sp.set q { P with ts:=v,tb:=tabOf (lstT T5 q) } } }:MW).H.ma = tabs m5 T5 (q + 1) ∧ S.T = T5 ∧ (S.H.sp.set q { P with ts:=v,tb:=tabOf (lstT T5 q) }).length = M ∧ FiM { S with H:={ S.H with sp:=S.H.sp.set q { P with ts:=v,tb:=tabOf (lstT T5 q) } } } ∧ S.H.m.fs.length = f ∧ S.H.dk.blocks.length = ct ∧ (l = [] → S.l = [])):=Lib.hid (by
          obtain ⟨q1,q2,q3,q4,q5⟩:=hI.out
          refine ⟨?_,q2,by rw [List.length_set]; exact q3,fun p hp n x hx => ?_,q5⟩
          ·show MH.ma { S.H with sp:=S.H.sp.set q { P with ts:=v,tb:=tabOf (lstT T5 q) } } = _
           rw [setTb_H hP'.out,q1]; rfl
          ·rcases List.mem_or_eq_of_mem_set hp with hp | rfl
           ·exact q4 p hp n x hx
           ·exact q4 P (List.mem_of_getElem? hP'.out) n x hx)
         clear hm9 hs9 hblk2 hfit2 hset2 hb10 hg10 hTO hI hkb9
         go_wp2
         go_roundw
         case rel=>exact ⟨q + 1,_,by omega,by go_num,hm10,hs10,hI10⟩
         case measure=>simp [intOf]; omega
        ·have hqi:¬ (q:Int) < (M:Int):=by omega
         have hIm:Hid (S.H.ma = fullM m5 T5):=Lib.hid (by
          have e:q = m5.sp.length:=by rw [hT6.out.2.2]; omega
          rw [hI.out.1,e]; exact tabs_end)
         have hI7:Hid (Rt S.H.ma ∧ Co S.H.ma ∧ FiM S ∧ S.H.m.fs.length = f ∧ S.H.dk.blocks.length = ct ∧ 1 ≤ S.H.sp.length ∧ (l = [] → S.H.ma = newMa f s ct ∧ S.l = [])):=Lib.hid (by
          obtain ⟨q1,q2,q3,q4,q5,q6,q7⟩:=hI.out
          exact ⟨by rw [hIm.out]; exact hT6.out.1.rt,by rw [hIm.out]; exact hT6.out.1.co,q4,q5,q6,by omega,fun e=>⟨by rw [hIm.out]; exact hnew.out e,q7 e⟩⟩)
         clear hI hIm
         by_cases hf0:0 < f
         ·have hfi:(0:Int) < (f:Int):=by omega
          go_wp2_with fail
          refine (rpick_any S (f:Int) b b _ hm (by omega)).mono ?_
          rintro r w11 ⟨x,a11,c11,l11,rfl,hm11,hs11,hx,hx0⟩
          have hs11:=hs.trans hs11
          clear hm hs
          go_wp2_with (refine wpList_stv rfl _ _ _ rfl b 2 _ [.int .i64 x] rfl rfl rfl _ _ hm11.blk (by show 2 + 1 ≤ 13; omega) (by kernel_rfl) (fun u hu=>by cases List.mem_singleton.1 hu; rfl) ?_)
          intro w12 hb12 hg12
          have hm:=hm11.setH hb12 hg12
          have hs:MS w4 b S3 w12 { (S.lst a11 c11 l11) with H:={ (S.lst a11 c11 l11).H with m:=⟨(S.lst a11 c11 l11).H.m.fs,x⟩ } }:=hs11.put hg12 (.inl rfl) (fun x hx => .inl hx)
          have hI:Hid (Rt ({ (S.lst a11 c11 l11) with H:={ (S.lst a11 c11 l11).H with m:=⟨(S.lst a11 c11 l11).H.m.fs,x⟩ } }:MW).H.ma ∧ Co ({ (S.lst a11 c11 l11) with H:={ (S.lst a11 c11 l11).H with m:=⟨(S.lst a11 c11 l11).H.m.fs,x⟩ } }:MW).H.ma ∧ FiM ({ (S.lst a11 c11 l11) with H:={ (S.lst a11 c11 l11).H with m:=⟨(S.lst a11 c11 l11).H.m.fs,x⟩ } }:MW) ∧ ({ (S.lst a11 c11 l11) with H:={ (S.lst a11 c11 l11).H with m:=⟨(S.lst a11 c11 l11).H.m.fs,x⟩ } }:MW).H.m.fs.length = f ∧ ({ (S.lst a11 c11 l11) with H:={ (S.lst a11 c11 l11).H with m:=⟨(S.lst a11 c11 l11).H.m.fs,x⟩ } }:MW).H.dk.blocks.length = ct ∧ 1 ≤ ({ (S.lst a11 c11 l11) with H:={ (S.lst a11 c11 l11).H with m:=⟨(S.lst a11 c11 l11).H.m.fs,x⟩ } }:MW).H.sp.length ∧ (l = [] → ({ (S.lst a11 c11 l11) with H:={ (S.lst a11 c11 l11).H with m:=⟨(S.lst a11 c11 l11).H.m.fs,x⟩ } }:MW).H.ma = newMa f s ct)):=Lib.hid (by
           obtain ⟨q1,q2,q3,q4,q5,q6,q7⟩:=hI7.out
           have hwm:=(wrongM_iff _).1 q1.pt.fr
           have hh:=hand_ok q1 q2 (x:=x) ((wrongM_iff _).2 ⟨hwm.1,hwm.2.1,hx.1,by
            rcases hx.2.2 with h | h
            ·exact .inr (by show x < (S.H.m.fs.length:Int); omega)
            ·exact .inl h⟩)
           refine ⟨hh.1,hh.2,q3,q4,q5,q6,fun e => ?_⟩
           obtain ⟨k1,k2⟩:=q7 e
           have hx00:x = 0:=(hx0 k2).1
           subst hx00
           have k3:S.H.m.hand = 0:=by
            have:=congrArg (fun m:Ma=>m.m.hand) k1
            have e2:(newMa f s ct).m.hand = 0:=by
             unfold newMa newM
             rw [if_pos ⟨⟨by omega,by omega⟩,⟨by omega,by omega⟩,by omega,by omega⟩,if_pos (by omega)]
            exact this.trans e2
           rw [← k1]
           show MH.ma { S.H with m:=⟨S.H.m.fs,0⟩ } = MH.ma S.H
           have e3:(⟨S.H.m.fs,0⟩:Mem) = S.H.m:=by rw [← k3]
           rw [e3])
          clear hm11 hs11 hb12 hg12 hI7 hx hx0
          generalize { (S.lst a11 c11 l11) with H:={ (S.lst a11 c11 l11).H with m:=⟨(S.lst a11 c11 l11).H.m.fs,x⟩ } } = S13 at hm hs hI
          ·skip
           have bz:Blk w12 w.heap.size (mhC noH) 40:=hs.blkN bx4'.out hnb4.out
           have hB9:=Lib.hid (Nat.le_of_eq hbb.out)
           go_wp2_with (first | (refine wpList_ldg _ _ rfl b 1 rfl rfl _ hm.rdM _ Try.underlying40 rfl machine_size ?_) | (refine wpList_stw rfl _ _ _ rfl w.heap.size (mhC S13.H) rfl rfl _ _ bz rfl machine_size (mhC_one _) ?_))
           intro wE bE gE
           have hE:Hid (MaO wE w.heap.size S13.H ∧ Below w.heap.size w wE):=Lib.hid ⟨(hm.ma.keep bz (by decide) gE).mono (by have:=hB9.out; omega),(below_two hbe4.out (hto.out _ _ hs) (by have:=hB9.out; omega) (Nat.le_refl _)).grown gE (Nat.le_trans (Nat.le_trans (by omega) hszl4) hs.size) (fun k hk=>by cases hk; exact Nat.le_refl _)⟩
           clear hm hs bz
           go_wp2
           refine bodyPost_ret (v:=.agg (mhC S13.H)) (results_c Try.results9 _ _ w.heap.size _ _ _ rfl bE Try.underlying40 rfl machine_size) rfl ?_
           obtain ⟨q1,q2,q3,q4,q5,q6,q7⟩:=hI.out
           exact ⟨S13.H,rfl,hE.out.1,hE.out.2,q1,q2,q3,by rw [hcl.out.1]; exact q4,by rw [hcl.out.2.2]; exact q5,q6,fun e=>by rw [hcl.out.1,hcl.out.2.1,hcl.out.2.2]; exact q7 e⟩
         ·have hfi:¬ (0:Int) < (f:Int):=by omega
          have hI:Hid (Rt S.H.ma ∧ Co S.H.ma ∧ FiM S ∧ S.H.m.fs.length = f ∧ S.H.dk.blocks.length = ct ∧ 1 ≤ S.H.sp.length ∧ (l = [] → S.H.ma = newMa f s ct)):=Lib.hid ⟨hI7.out.1,hI7.out.2.1,hI7.out.2.2.1,hI7.out.2.2.2.1,hI7.out.2.2.2.2.1,hI7.out.2.2.2.2.2.1,fun e=>(hI7.out.2.2.2.2.2.2 e).1⟩
          clear hI7
          ·skip
           have bz:Blk wr w.heap.size (mhC noH) 40:=hs.blkN bx4'.out hnb4.out
           have hB9:=Lib.hid (Nat.le_of_eq hbb.out)
           go_wp2_with (first | (refine wpList_ldg _ _ rfl b 1 rfl rfl _ hm.rdM _ Try.underlying40 rfl machine_size ?_) | (refine wpList_stw rfl _ _ _ rfl w.heap.size (mhC S.H) rfl rfl _ _ bz rfl machine_size (mhC_one _) ?_))
           intro wE bE gE
           have hE:Hid (MaO wE w.heap.size S.H ∧ Below w.heap.size w wE):=Lib.hid ⟨(hm.ma.keep bz (by decide) gE).mono (by have:=hB9.out; omega),(below_two hbe4.out (hto.out _ _ hs) (by have:=hB9.out; omega) (Nat.le_refl _)).grown gE (Nat.le_trans (Nat.le_trans (by omega) hszl4) hs.size) (fun k hk=>by cases hk; exact Nat.le_refl _)⟩
           clear hm hs bz
           go_wp2
           refine bodyPost_ret (v:=.agg (mhC S.H)) (results_c Try.results9 _ _ w.heap.size _ _ _ rfl bE Try.underlying40 rfl machine_size) rfl ?_
           obtain ⟨q1,q2,q3,q4,q5,q6,q7⟩:=hI.out
           exact ⟨S.H,rfl,hE.out.1,hE.out.2,q1,q2,q3,by rw [hcl.out.1]; exact q4,by rw [hcl.out.2.2]; exact q5,q6,fun e=>by rw [hcl.out.1,hcl.out.2.1,hcl.out.2.2]; exact q7 e⟩
theorem machine_own2 (H:MH) (w:World) (h:MaR w H) (hz:MaZ H.ma) :
  Calls Try.prog 13 #[.agg (mhC H)] w fun r w' => ∃ H' : MH,r = .returned (.agg (mhC H')) ∧ MaO w' w.heap.size H' ∧ H'.ma = H.ma ∧ (∀ p ∈ H'.fi,∀ x,oB p.a = some x → oB H'.asl ≠ some x) ∧ Below w.heap.size w w':=by
 have z1:H.m.fs.length ≤ 1000:=hz.fs
 have z2:H.sl.length ≤ 1000:=hz.sl
 have z3:H.sw.blocks.length ≤ 1000:=hz.swb
 have z4:H.sw.queue.length ≤ 1000:=hz.swq
 have z5:H.dk.blocks.length ≤ 1000:=hz.dkb
 have z6:H.dk.queue.length ≤ 1000:=hz.dkq
 have z7:H.ca.length ≤ 1000:=hz.ca
 have z8:H.sp.length ≤ 1000:=by have:=hz.sp.1; rw [spH] at this; exact this
 have zf:=hz.fsz
 go_enter Try.func13,Try.ntmps13
 go_upto_region 1 with (fail)
 refine abs2 (fun W=>Code.wp _ _ _ _ W) fun w1 hb1 bx1 rx1 hs1 => ?_
 have hm1:=h.below hb1
 clear hs1
 refine wp_growY 7 [ofR 0 (isV (.pointer (some ⟨w.heap.size,0,none⟩))),ofR 1 (isV (.agg #[.slice H.af H.m.fs.length H.cf,.int .i64 H.m.hand])),ofR 2 ((memO w1.heap.size H.m)),ofR 3 (isV (.pointer (some ⟨w.heap.size,2,none⟩))),ofR 4 (isV (.slice H.asl H.sl.length H.csl)),ofR 5 ((ownR w1.heap.size 3 1 H.sl.length (H.sl.map inV))),ofR 6 (isV (.pointer (some ⟨w.heap.size,0,none⟩)))] (fun W=>Below w1.heap.size w1 W) (fun _ _ h h2=>below_next h2 h) (Below.refl _ _) (by kernel_rfl) _ rfl (by kernel_rfl) (by kernel_rfl) (by decide) (by kernel_rfl) _ rfl (by kernel_rfl) (all_cons ?_ (all_cons ?_ (all_cons ?_ (all_cons ?_ (all_cons ?_ (all_cons ?_ (all_cons ?_ (all_nil)))))))) ?_
 ·intro ρ y W hw hn hb hd
  refine askY (fun _ _ h h2=>below_next h2 h) hb (isV (.pointer (some ⟨w.heap.size,0,none⟩))) (fun _ _ h=>h) ?_
  have E1:ρ (.tmp 1) = .pointer (some ⟨w.heap.size,0,none⟩):=(hn (.tmp 1) rfl).trans rfl
  refine asked_val (.pointer (some ⟨w.heap.size,0,none⟩)) (want_free rfl) (by simp [execOp,go_sem,stripO,E1]) rfl
 ·intro ρ y W hw hn hb hd
  refine askY (fun _ _ h h2=>below_next h2 h) hb (isV (.agg #[.slice H.af H.m.fs.length H.cf,.int .i64 H.m.hand])) (fun _ _ h=>h) ?_
  have E6:=hw 6 0 rfl
  have h0:y 0 = .pointer (some ⟨w.heap.size,0,none⟩):=hd 0 rfl
  refine asked_val (.agg #[.slice H.af H.m.fs.length H.cf,.int .i64 H.m.hand]) (want_free rfl) (run_load_rd rfl (E6.trans h0) (blk_part (bx1.ext hb) 0 2) Try.underlying27 rfl (by kernel_rfl)) rfl
 ·intro ρ y W hw hn hb hd
  refine askY (fun _ _ h h2=>below_next h2 h) hb ((memO w1.heap.size H.m)) (fun _ _ h=>h) ?_
  have E7:=hw 7 1 rfl
  have h1:y 1 = .agg #[.slice H.af H.m.fs.length H.cf,.int .i64 H.m.hand]:=hd 1 rfl
  have EF:∀ f,ρ (.func f) = .func (.func f) #[] #[]:=fun f=>hn (.func f) trivial
  refine asked_call _ _ (want_free rfl) (run_call rfl (EF _) Try.func54 (by kernel_rfl) (by kernel_rfl) (by simp only [List.map_toArray,List.map_cons,List.map_nil,E7,h1,EF]; rfl)) ?_
  refine (mown_any H.m _ _ W (hm1.below hb).fr (by omega)).mono ?_
  rintro r w3 ⟨u,rfl,ho,hb1⟩
  exact ⟨_,rfl,hb1,u,rfl,ho.mono hb.size⟩
 ·intro ρ y W hw hn hb hd
  refine askY (fun _ _ h h2=>below_next h2 h) hb (isV (.pointer (some ⟨w.heap.size,2,none⟩))) (fun _ _ h=>h) ?_
  have E1:ρ (.tmp 1) = .pointer (some ⟨w.heap.size,0,none⟩):=(hn (.tmp 1) rfl).trans rfl
  refine asked_val (.pointer (some ⟨w.heap.size,2,none⟩)) (want_free rfl) (by simp [execOp,go_sem,stripO,E1]) rfl
 ·intro ρ y W hw hn hb hd
  refine askY (fun _ _ h h2=>below_next h2 h) hb (isV (.slice H.asl H.sl.length H.csl)) (fun _ _ h=>h) ?_
  have E9:=hw 9 3 rfl
  have h3:y 3 = .pointer (some ⟨w.heap.size,2,none⟩):=hd 3 rfl
  refine asked_val (.slice H.asl H.sl.length H.csl) (want_free rfl) (by simp [execOp,go_sem,stripO,E9,h3,(bx1.ext hb).cell,mhC]) rfl
 ·intro ρ y W hw hn hb hd
  refine askY (fun _ _ h h2=>below_next h2 h) hb ((ownR w1.heap.size 3 1 H.sl.length (H.sl.map inV))) (fun _ _ h=>h) ?_
  have E10:=hw 10 4 rfl
  have h4:y 4 = .slice H.asl H.sl.length H.csl:=hd 4 rfl
  have EF:∀ f,ρ (.func f) = .func (.func f) #[] #[]:=fun f=>hn (.func f) trivial
  refine asked_call _ _ (want_free rfl) (run_call rfl (EF _) Try.func55 (by kernel_rfl) (by kernel_rfl) (by simp only [List.map_toArray,List.map_cons,List.map_nil,E10,h4,EF]; rfl)) ?_
  have hs:=(hm1.below hb).sl
  refine (clone_slots H.sl _ _ W hs.le hs.nl hs.rd (by omega)).mono ?_
  rintro r w3 ⟨u,rfl,ho,hb1⟩
  exact ⟨_,rfl,hb1,ho.mono hb.size⟩
 ·intro ρ y W hw hn hb hd
  refine askY (fun _ _ h h2=>below_next h2 h) hb (isV (.pointer (some ⟨w.heap.size,0,none⟩))) (fun _ _ h=>h) ?_
  have E1:ρ (.tmp 1) = .pointer (some ⟨w.heap.size,0,none⟩):=(hn (.tmp 1) rfl).trans rfl
  refine asked_val (.pointer (some ⟨w.heap.size,0,none⟩)) (want_free rfl) (by simp [execOp,go_sem,stripO,E1]) rfl
 intro y w2 hbw2 hRw2
 replace hbw2:Below w1.heap.size w1 w2:=hbw2
 have hy0:y 0 = .pointer (some ⟨w.heap.size,0,none⟩):=hRw2 0 (by decide)
 have hy1:y 1 = .agg #[.slice H.af H.m.fs.length H.cf,.int .i64 H.m.hand]:=hRw2 1 (by decide)
 have hy3:y 3 = .pointer (some ⟨w.heap.size,2,none⟩):=hRw2 3 (by decide)
 have hy4:y 4 = .slice H.asl H.sl.length H.csl:=hRw2 4 (by decide)
 have hy6:y 6 = .pointer (some ⟨w.heap.size,0,none⟩):=hRw2 6 (by decide)
 have hy2:((memO w1.heap.size H.m)).r (y 2) w2:=hRw2 2 (by decide)
 have hy5:((ownR w1.heap.size 3 1 H.sl.length (H.sl.map inV))).r (y 5) w2:=hRw2 5 (by decide)
 clear hRw2
 simp only [lay,strip,stripO,List.map_cons,List.map_nil,Nat.reduceAdd,Nat.reduceLT,decide_true,decide_false,if_true,Bool.false_eq_true,if_false,List.setIfInBounds_toArray,List.set_cons_zero,List.set_cons_succ,List.drop_succ_cons,List.drop_zero,List.drop_nil,hy0,hy1,hy3,hy4,hy6]
 clear hy0 hy1 hy3 hy4 hy6
 obtain ⟨u1,hu1,ho1⟩:=hy2
 have ho2:Own w2 w1.heap.size 3 1 (y 5) H.sl.length (H.sl.map inV):=hy5
 obtain ⟨a1,c1,rfl,_⟩:=ho1.rd
 obtain ⟨a2,c2,hu2,_⟩:=Own.rd ho2
 rw [hu2] at ho2
 rw [hu1,hu2]
 have bx2:=bx1.ext hbw2
 have rx2:=rx1.ext hbw2
 have hbr2:=below_next hb1 hbw2
 have hm2:=hm1.below hbw2
 have hw1:=Lib.hid hb1.size
 have hlt2:=rx2.lt
 clear hbw2 bx1 rx1 hm1 hu1 hu2 hy5
 go_wp2_with (refine wpList_st rfl _ _ _ rfl w.heap.size 0 #[.slice a1 H.m.fs.length c1,.int .i64 H.m.hand] rfl rfl _ _ bx2 (by show 0 + 2 ≤ 11; decide) mem_size (mem_one _ _ _ _) ?_)
 intro w3 bx3 hg3
 have ho13:=own_keep ho1 bx2 (by decide) hg3
 have ho23:=own_keep ho2 bx2 (by decide) hg3
 have hbr3:=hbr2.grown hg3 hbr2.size (fun k hk=>by cases hk; exact Nat.le_refl _)
 have rx3:=rx2.grown hg3 (fun e=>by have:=Option.some.inj e; omega)
 have bx3' : Blk w3 w.heap.size (mhC { H with af:=a1,cf:=c1 }) 40:=bx3
 clear ho1 ho2 bx2 rx2 hm2 hg3 bx3 hbr2
 go_wp2_with (refine wpList_stv rfl _ _ _ rfl w.heap.size 2 _ [.slice a2 H.sl.length c2] rfl rfl rfl _ _ bx3' (by show 2 + 1 ≤ 11; decide) slots_size (fun u hu=>by cases List.mem_singleton.1 hu; rfl) ?_)
 intro w4 bx4 hg4
 have ho14:=own_keep ho13 bx3' (by decide) hg4
 have ho24:=own_keep ho23 bx3' (by decide) hg4
 have hbr4:=hbr3.grown hg4 hbr3.size (fun k hk=>by cases hk; exact Nat.le_refl _)
 have rx4:=rx3.grown hg4 (fun e=>by have:=Option.some.inj e; omega)
 have bx4' : Blk w4 w.heap.size (mhC { H with af:=a1,cf:=c1,asl:=a2,csl:=c2 }) 40:=bx4
 have hm4:=h.below hbr4
 clear ho13 ho23 bx3' rx3 hg4 bx4 hbr3
 obtain ⟨H4,hH4⟩:∃ H4:MH,Hid (H4 = { H with af:=a1,cf:=c1,asl:=a2,csl:=c2 }):=⟨_,Lib.hid rfl⟩
 go_upto_region 2 with (fail)
 refine wp_growY 10 [ofR 0 (isV (.pointer (some ⟨w.heap.size,3,none⟩))),ofR 1 (isV (.agg #[.slice H.wb H.sw.blocks.length H.cwb,.slice H.wq H.sw.queue.length H.cwq])),ofR 2 ((dskR w4.heap.size H.sw)),ofR 3 (isV (.pointer (some ⟨w.heap.size,5,none⟩))),ofR 4 (isV (.agg #[.slice H.db H.dk.blocks.length H.cdb,.slice H.dq H.dk.queue.length H.cdq])),ofR 5 ((dskR w4.heap.size H.dk)),ofR 6 (isV (.pointer (some ⟨w.heap.size,7,none⟩))),ofR 7 (isV (.agg #[.slice H.ai H.fi.length H.ci,.int .i64 H.ct])),ofR 8 ((stoR w4.heap.size (stOf H.fi H.ct))),ofR 9 (isV (.pointer (some ⟨w.heap.size,3,none⟩)))] (fun W=>Below w4.heap.size w4 W) (fun _ _ h h2=>below_next h2 h) (Below.refl _ _) (by kernel_rfl) _ rfl (by kernel_rfl) (by kernel_rfl) (by decide) (by kernel_rfl) _ rfl (by kernel_rfl) (all_cons ?_ (all_cons ?_ (all_cons ?_ (all_cons ?_ (all_cons ?_ (all_cons ?_ (all_cons ?_ (all_cons ?_ (all_cons ?_ (all_cons ?_ (all_nil))))))))))) ?_
 ·intro ρ y W hw hn hb hd
  refine askY (fun _ _ h h2=>below_next h2 h) hb (isV (.pointer (some ⟨w.heap.size,3,none⟩))) (fun _ _ h=>h) ?_
  have E1:ρ (.tmp 1) = .pointer (some ⟨w.heap.size,0,none⟩):=(hn (.tmp 1) rfl).trans rfl
  refine asked_val (.pointer (some ⟨w.heap.size,3,none⟩)) (want_free rfl) (by simp [execOp,go_sem,stripO,E1]) rfl
 ·intro ρ y W hw hn hb hd
  refine askY (fun _ _ h h2=>below_next h2 h) hb (isV (.agg #[.slice H.wb H.sw.blocks.length H.cwb,.slice H.wq H.sw.queue.length H.cwq])) (fun _ _ h=>h) ?_
  have E14:=hw 14 0 rfl
  have h0:y 0 = .pointer (some ⟨w.heap.size,3,none⟩):=hd 0 rfl
  refine asked_val (.agg #[.slice H.wb H.sw.blocks.length H.cwb,.slice H.wq H.sw.queue.length H.cwq]) (want_free rfl) (run_load_rd rfl (E14.trans h0) (blk_part (bx4'.ext hb) 3 2) Try.underlying33 rfl (by kernel_rfl)) rfl
 ·intro ρ y W hw hn hb hd
  refine askY (fun _ _ h h2=>below_next h2 h) hb ((dskR w4.heap.size H.sw)) (fun _ _ h=>h) ?_
  have E15:=hw 15 1 rfl
  have h1:y 1 = .agg #[.slice H.wb H.sw.blocks.length H.cwb,.slice H.wq H.sw.queue.length H.cwq]:=hd 1 rfl
  have EF:∀ f,ρ (.func f) = .func (.func f) #[] #[]:=fun f=>hn (.func f) trivial
  refine asked_call _ _ (want_free rfl) (run_call rfl (EF _) Try.func56 (by kernel_rfl) (by kernel_rfl) (by simp only [List.map_toArray,List.map_cons,List.map_nil,E15,h1,EF]; rfl)) ?_
  refine (down_any H.sw _ _ _ _ W (hm4.below hb).sw (by omega) (by omega)).mono ?_
  rintro r w3 ⟨u,v,rfl,ho,hb1⟩
  exact ⟨_,rfl,hb1,u,v,rfl,ho.mono hb.size⟩
 ·intro ρ y W hw hn hb hd
  refine askY (fun _ _ h h2=>below_next h2 h) hb (isV (.pointer (some ⟨w.heap.size,5,none⟩))) (fun _ _ h=>h) ?_
  have E1:ρ (.tmp 1) = .pointer (some ⟨w.heap.size,0,none⟩):=(hn (.tmp 1) rfl).trans rfl
  refine asked_val (.pointer (some ⟨w.heap.size,5,none⟩)) (want_free rfl) (by simp [execOp,go_sem,stripO,E1]) rfl
 ·intro ρ y W hw hn hb hd
  refine askY (fun _ _ h h2=>below_next h2 h) hb (isV (.agg #[.slice H.db H.dk.blocks.length H.cdb,.slice H.dq H.dk.queue.length H.cdq])) (fun _ _ h=>h) ?_
  have E17:=hw 17 3 rfl
  have h3:y 3 = .pointer (some ⟨w.heap.size,5,none⟩):=hd 3 rfl
  refine asked_val (.agg #[.slice H.db H.dk.blocks.length H.cdb,.slice H.dq H.dk.queue.length H.cdq]) (want_free rfl) (run_load_rd rfl (E17.trans h3) (blk_part (bx4'.ext hb) 5 2) Try.underlying33 rfl (by kernel_rfl)) rfl
 ·intro ρ y W hw hn hb hd
  refine askY (fun _ _ h h2=>below_next h2 h) hb ((dskR w4.heap.size H.dk)) (fun _ _ h=>h) ?_
  have E18:=hw 18 4 rfl
  have h4:y 4 = .agg #[.slice H.db H.dk.blocks.length H.cdb,.slice H.dq H.dk.queue.length H.cdq]:=hd 4 rfl
  have EF:∀ f,ρ (.func f) = .func (.func f) #[] #[]:=fun f=>hn (.func f) trivial
  refine asked_call _ _ (want_free rfl) (run_call rfl (EF _) Try.func56 (by kernel_rfl) (by kernel_rfl) (by simp only [List.map_toArray,List.map_cons,List.map_nil,E18,h4,EF]; rfl)) ?_
  refine (down_any H.dk _ _ _ _ W (hm4.below hb).dk (by omega) (by omega)).mono ?_
  rintro r w3 ⟨u,v,rfl,ho,hb1⟩
  exact ⟨_,rfl,hb1,u,v,rfl,ho.mono hb.size⟩
 ·intro ρ y W hw hn hb hd
  refine askY (fun _ _ h h2=>below_next h2 h) hb (isV (.pointer (some ⟨w.heap.size,7,none⟩))) (fun _ _ h=>h) ?_
  have E1:ρ (.tmp 1) = .pointer (some ⟨w.heap.size,0,none⟩):=(hn (.tmp 1) rfl).trans rfl
  refine asked_val (.pointer (some ⟨w.heap.size,7,none⟩)) (want_free rfl) (by simp [execOp,go_sem,stripO,E1]) rfl
 ·intro ρ y W hw hn hb hd
  refine askY (fun _ _ h h2=>below_next h2 h) hb (isV (.agg #[.slice H.ai H.fi.length H.ci,.int .i64 H.ct])) (fun _ _ h=>h) ?_
  have E20:=hw 20 6 rfl
  have h6:y 6 = .pointer (some ⟨w.heap.size,7,none⟩):=hd 6 rfl
  refine asked_val (.agg #[.slice H.ai H.fi.length H.ci,.int .i64 H.ct]) (want_free rfl) (run_load_rd rfl (E20.trans h6) (blk_part (bx4'.ext hb) 7 2) Try.underlying36 rfl (by kernel_rfl)) rfl
 ·intro ρ y W hw hn hb hd
  refine askY (fun _ _ h h2=>below_next h2 h) hb ((stoR w4.heap.size (stOf H.fi H.ct))) (fun _ _ h=>h) ?_
  have E21:=hw 21 7 rfl
  have h7:y 7 = .agg #[.slice H.ai H.fi.length H.ci,.int .i64 H.ct]:=hd 7 rfl
  have EF:∀ f,ρ (.func f) = .func (.func f) #[] #[]:=fun f=>hn (.func f) trivial
  refine asked_call _ _ (want_free rfl) (run_call rfl (EF _) Try.func57 (by kernel_rfl) (by kernel_rfl) (by simp only [List.map_toArray,List.map_cons,List.map_nil,E21,h7,EF]; rfl)) ?_
  refine (sown_any H.fi H.ct _ _ W (hm4.below hb).st zf).mono ?_
  rintro r w3 ⟨u,ps,rfl,ho,he,hb1⟩
  exact ⟨_,rfl,hb1,u,ps,_,rfl,ho.mono hb.size,by unfold stOf; rw [he]⟩
 ·intro ρ y W hw hn hb hd
  refine askY (fun _ _ h h2=>below_next h2 h) hb (isV (.pointer (some ⟨w.heap.size,3,none⟩))) (fun _ _ h=>h) ?_
  have E1:ρ (.tmp 1) = .pointer (some ⟨w.heap.size,0,none⟩):=(hn (.tmp 1) rfl).trans rfl
  refine asked_val (.pointer (some ⟨w.heap.size,3,none⟩)) (want_free rfl) (by simp [execOp,go_sem,stripO,E1]) rfl
 intro y w5 hbw5 hRw5
 replace hbw5:Below w4.heap.size w4 w5:=hbw5
 have hy0:y 0 = .pointer (some ⟨w.heap.size,3,none⟩):=hRw5 0 (by decide)
 have hy1:y 1 = .agg #[.slice H.wb H.sw.blocks.length H.cwb,.slice H.wq H.sw.queue.length H.cwq]:=hRw5 1 (by decide)
 have hy3:y 3 = .pointer (some ⟨w.heap.size,5,none⟩):=hRw5 3 (by decide)
 have hy4:y 4 = .agg #[.slice H.db H.dk.blocks.length H.cdb,.slice H.dq H.dk.queue.length H.cdq]:=hRw5 4 (by decide)
 have hy6:y 6 = .pointer (some ⟨w.heap.size,7,none⟩):=hRw5 6 (by decide)
 have hy7:y 7 = .agg #[.slice H.ai H.fi.length H.ci,.int .i64 H.ct]:=hRw5 7 (by decide)
 have hy9:y 9 = .pointer (some ⟨w.heap.size,3,none⟩):=hRw5 9 (by decide)
 have hy2:((dskR w4.heap.size H.sw)).r (y 2) w5:=hRw5 2 (by decide)
 have hy5:((dskR w4.heap.size H.dk)).r (y 5) w5:=hRw5 5 (by decide)
 have hy8:((stoR w4.heap.size (stOf H.fi H.ct))).r (y 8) w5:=hRw5 8 (by decide)
 clear hRw5
 simp only [lay,strip,stripO,List.map_cons,List.map_nil,Nat.reduceAdd,Nat.reduceLT,decide_true,decide_false,if_true,Bool.false_eq_true,if_false,List.setIfInBounds_toArray,List.set_cons_zero,List.set_cons_succ,List.drop_succ_cons,List.drop_zero,List.drop_nil,hy0,hy1,hy3,hy4,hy6,hy7,hy9]
 clear hy0 hy1 hy3 hy4 hy6 hy7 hy9
 obtain ⟨ub,uq,hu3,ho3⟩:=hy2
 obtain ⟨vb,vq,hu4,ho4⟩:=hy5
 obtain ⟨us,ps,ks,hu5,ho5,hst⟩:=hy8
 have hks : -9223372036854775808 ≤ ks ∧ ks ≤ 9223372036854775807:=by have e:ks = H.ct:=congrArg St.count hst; rw [e]; exact h.c64
 obtain ⟨ab,cb,rfl,_⟩:=ho3.b.rd
 obtain ⟨aq,cq,rfl,_⟩:=ho3.q.rd
 obtain ⟨db,eb,rfl,_⟩:=ho4.b.rd
 obtain ⟨dq,eq,rfl,_⟩:=ho4.q.rd
 obtain ⟨as_,cs,rfl,_⟩:=ho5.rd
 rw [hu3,hu4,hu5]
 have hn2:Hid (∀ p ∈ ps,∀ x,oB p.a = some x → oB a2 ≠ some x):=Lib.hid (fun p hp x hx e=>by
  have h1:=(own_oB ho24 e).2.choose_spec.lt
  obtain ⟨i,hi,rfl⟩:=List.mem_iff_getElem.1 hp
  have h2:=(own_oB (ho5.each i _ (List.getElem?_eq_getElem hi)) hx).1
  omega)
 have bx5:=bx4'.ext hbw5
 have rx5:=rx4.ext hbw5
 have hbr5:=below_next hbr4 hbw5
 have ho15:=ho14.below hbw5
 have ho25:=ho24.below hbw5
 have hw14:=Lib.hid hbr4.size
 clear hbw5 bx4' rx4 hm4 hu3 hu4 hu5 ho14 ho24 hbr4
 go_wp2_with (refine wpList_st rfl _ _ _ rfl w.heap.size 3 #[.slice ab H.sw.blocks.length cb,.slice aq H.sw.queue.length cq] rfl rfl _ _ bx5 (by show 3 + 2 ≤ 11; decide) disk_size (sl_one _ _ _ _ _ _) ?_)
 intro w6 bx6 hg6
 have hbr6:=hbr5.grown hg6 hbr5.size (fun k hk=>by cases hk; exact Nat.le_refl _)
 have rx6:=rx5.grown hg6 (fun e=>by have:=Option.some.inj e; omega)
 have p1:=own_keep ho15 bx5 (by decide) hg6
 have p2:=own_keep ho25 bx5 (by decide) hg6
 have p3:=ho3.keep bx5 (by decide) (by decide) hg6
 have p4:=ho4.keep bx5 (by decide) (by decide) hg6
 have p5:=ho5.keep bx5 (by decide) (by decide) hg6
 clear bx5 rx5 hg6 ho15 ho25 ho3 ho4 ho5 hbr5
 go_wp2_with (refine wpList_st rfl _ _ _ rfl w.heap.size 5 #[.slice db H.dk.blocks.length eb,.slice dq H.dk.queue.length eq] rfl rfl _ _ bx6 (by show 5 + 2 ≤ 11; decide) disk_size (sl_one _ _ _ _ _ _) ?_)
 intro w7 bx7 hg7
 have hbr7:=hbr6.grown hg7 hbr6.size (fun k hk=>by cases hk; exact Nat.le_refl _)
 have rx7:=rx6.grown hg7 (fun e=>by have:=Option.some.inj e; omega)
 have q1:=own_keep p1 bx6 (by decide) hg7
 have q2:=own_keep p2 bx6 (by decide) hg7
 have q3:=p3.keep bx6 (by decide) (by decide) hg7
 have q4:=p4.keep bx6 (by decide) (by decide) hg7
 have q5:=p5.keep bx6 (by decide) (by decide) hg7
 clear bx6 rx6 hg7 p1 p2 p3 p4 p5 hbr6
 go_wp2_with (refine wpList_st rfl _ _ _ rfl w.heap.size 7 #[.slice as_ ps.length cs,.int .i64 ks] rfl rfl _ _ bx7 (by show 7 + 2 ≤ 11; decide) store_size (sl_in _ _ _ _) ?_)
 intro w8 bx8 hg8
 have hbr8:=hbr7.grown hg8 hbr7.size (fun k hk=>by cases hk; exact Nat.le_refl _)
 have rx8:=rx7.grown hg8 (fun e=>by have:=Option.some.inj e; omega)
 have p1:=own_keep q1 bx7 (by decide) hg8
 have p2:=own_keep q2 bx7 (by decide) hg8
 have p3:=q3.keep bx7 (by decide) (by decide) hg8
 have p4:=q4.keep bx7 (by decide) (by decide) hg8
 have p5:=q5.keep bx7 (by decide) (by decide) hg8
 obtain ⟨H8,hH8⟩:∃ H8:MH,Hid (H8 = { H with af:=a1,cf:=c1,asl:=a2,csl:=c2,wb:=ab,cwb:=cb,wq:=aq,cwq:=cq,db:=db,cdb:=eb,dq:=dq,cdq:=eq,ai:=as_,ci:=cs,fi:=ps,ct:=ks }):=⟨_,Lib.hid rfl⟩
 have bx8' : Blk w8 w.heap.size (mhC H8) 40:=by rw [hH8.out]; exact bx8
 have hm8:=h.below hbr8
 clear bx7 rx7 hg8 bx8 q1 q2 q3 q4 q5 hbr7
 have hcb:w8.cell? ⟨w.heap.size,9,none⟩ = some (.slice H.ac H.ca.length H.cc):=by rw [bx8'.cell,hH8.out]; rfl
 go_wp2_with fail
 refine (clone_cached H.ca H.ac H.cc _ hm8.ca.le hm8.ca.nl hm8.ca.rd (by omega)).mono ?_
 rintro r w9 ⟨v9,rfl,ho9,hb9⟩
 obtain ⟨a6,c6,rfl,_⟩:=ho9.rd
 have bx9:=bx8'.ext hb9
 have rx9:=rx8.ext hb9
 have hbr9:=below_next hbr8 hb9
 have q1:=p1.below hb9
 have q2:=p2.below hb9
 have q3:=p3.below hb9
 have q4:=p4.below hb9
 have q5:=p5.below hb9
 have hw8:=Lib.hid hbr8.size
 clear hcb bx8' rx8 hm8 p1 p2 p3 p4 p5 hb9 hbr8
 go_wp2_with (refine wpList_stv rfl _ _ _ rfl w.heap.size 9 _ [.slice a6 H.ca.length c6] rfl rfl rfl _ _ bx9 (by show 9 + 1 ≤ 11; decide) caO_size (fun u hu=>by cases List.mem_singleton.1 hu; rfl) ?_)
 intro w10 bx10 hg10
 have hbr10:=hbr9.grown hg10 hbr9.size (fun k hk=>by cases hk; exact Nat.le_refl _)
 have rx10:=rx9.grown hg10 (fun e=>by have:=Option.some.inj e; omega)
 have p1:=(own_keep q1 bx9 (by decide) hg10).mono hw1.out
 have p2:=(own_keep q2 bx9 (by decide) hg10).mono hw1.out
 have p3:=(q3.keep bx9 (by decide) (by decide) hg10).mono hw14.out
 have p4:=(q4.keep bx9 (by decide) (by decide) hg10).mono hw14.out
 have p5:=(q5.keep bx9 (by decide) (by decide) hg10).mono hw14.out
 have p6:=(own_keep ho9 bx9 (by decide) hg10).mono hw8.out
 obtain ⟨G,hG⟩:∃ G:MH,Hid (G = { H with af:=a1,cf:=c1,asl:=a2,csl:=c2,wb:=ab,cwb:=cb,wq:=aq,cwq:=cq,db:=db,cdb:=eb,dq:=dq,cdq:=eq,ai:=as_,ci:=cs,fi:=ps,ct:=ks,ac:=a6,cc:=c6 }):=⟨_,Lib.hid rfl⟩
 have bxG:Blk w10 w.heap.size (mhC G) 40:=by rw [hG.out]; rw [hH8.out] at bx10; exact bx10
 clear bx9 rx9 hg10 bx10 q1 q2 q3 q4 q5 ho9 hbr9
 have hGap:Hid (G.ap = H.ap ∧ G.sp = H.sp ∧ G.cp = H.cp):=Lib.hid (by rw [hG.out]; exact ⟨rfl,rfl,rfl⟩)
 have hcb:w10.cell? ⟨w.heap.size,10,none⟩ = some (.slice H.ap H.sp.length H.cp):=by rw [bxG.cell,hG.out]; rfl
 have hm10:=h.below hbr10
 have ho0:Own w10 w.heap.size 65 10 (.slice none 0 0) ([]:List PS).length (([]:List PS).flatMap psL):=by simpa using Own.nil _ _ _ _
 go_upto_region 6 with (fail)
 clear hcb hm10
 go_loopw [3,33] (fun s3 i wr => ∃ (q:Nat) (qs:List PS) (av:Option Addr) (cv:Nat),q ≤ H.sp.length ∧ i = .int .i64 q ∧ s3 = .slice av qs.length cv ∧ Below w.heap.size w wr ∧ Blk wr w.heap.size (mhC G) 40 ∧ Blk wr (w.heap.size + 1) _ 40 ∧
  Own wr w.heap.size 59 13 (.slice a1 H.m.fs.length c1) H.m.fs.length (H.m.fs.flatMap frL) ∧ Own wr w.heap.size 3 1 (.slice a2 H.sl.length c2) H.sl.length (H.sl.map inV) ∧ DOwn wr w.heap.size (.slice ab H.sw.blocks.length cb) (.slice aq H.sw.queue.length cq) H.sw ∧ DOwn wr w.heap.size (.slice db H.dk.blocks.length eb) (.slice dq H.dk.queue.length eq) H.dk ∧
  FsO wr w.heap.size (.slice as_ ps.length cs) ps ∧ Own wr w.heap.size 85 3 (.slice a6 H.ca.length c6) H.ca.length (H.ca.flatMap ccL) ∧ Own wr w.heap.size 65 10 (.slice av qs.length cv) qs.length (qs.flatMap psL) ∧ (∀ p ∈ qs,spGood wr w.heap.size p p.sp ∧ TbSz p.tb) ∧ Hid (qs.map PS.sp = (H.sp.take q).map PS.sp)) (fun _ i _=>H.sp.length - (intOf i).toNat)
 case atStart=>exact ⟨0,[],none,0,Nat.zero_le _,rfl,rfl,hbr10,bxG,rx10,p1,p2,p3,p4,p5,p6,ho0,fun p hp=>(by simp at hp),Lib.hid rfl⟩
 case round=>
  clear hbr10 bxG rx10 p1 p2 p3 p4 p5 p6 ho0
  obtain ⟨q,qs,av,cv,hq,rfl,rfl,hbr,bx,rx,p1,p2,p3,p4,p5,p6,ho,hps,hqs⟩:=hrel
  have hql:qs.length ≤ q:=by
   have:=congrArg List.length hqs.out
   rw [List.length_map,List.length_map,List.length_take] at this
   omega
  by_cases hql2:q < H.sp.length
  ·obtain ⟨bs,os,P,hap,hP,hrd⟩:=ps_at (h.below hbr).sp.rd q hql2
   have hgood:=ps_good (h.below hbr) hP
   have hPm:=List.mem_of_getElem? hP
   obtain ⟨hz1,hz2⟩:=hz.spz hPm
   have hqi:(q:Int) < (H.sp.length:Int):=by omega
   have hqs2:Hid (qs.map PS.sp ++ [P.sp] = (H.sp.take (q + 1)).map PS.sp):=Lib.hid (by rw [take_at hP,List.map_append,hqs.out]; rfl)
   rw [hap]
   have hps1:(psC P).all (·.oneCell') = true:=by
    rw [← Array.all_toList,List.all_eq_true]; exact hgood.one
   go_wp2_with (first | (refine wpList_ldg _ _ rfl bs (os + q * 10) rfl rfl _ hrd _ Try.underlying65 rfl space_size ?_) | (refine wpList_stn rfl _ _ _ rfl (psC P) rfl rfl rfl space_size hps1 ?_))
   intro w11 hb11 fx
   have hbr11:=below_next hbr hb11
   have hg11:=hgood.below hb11
   have bx11:=bx.ext hb11
   have rx11:=rx.ext hb11
   have q1:=p1.below hb11
   have q2:=p2.below hb11
   have q3:=p3.below hb11
   have q4:=p4.below hb11
   have q5:=p5.below hb11
   have q6:=p6.below hb11
   have hO:=ho.below hb11
   have hps11:∀ p ∈ qs,spGood w11 w.heap.size p p.sp ∧ TbSz p.tb:=fun p hp=>⟨(hps p hp).1.below hb11,(hps p hp).2⟩
   have hgw:=Lib.hid hbr11.size
   clear hbr hgood bx rx p1 p2 p3 p4 p5 p6 ho hps hb11 hrd hps1 hP
   go_upto_region 8 with (fail)
   refine wp_free 0 3 (.slice av qs.length cv) (by kernel_rfl) (by kernel_rfl) rfl fun ops0 hops0 => ?_
   simp only [freedL,freeO] at hops0
   subst hops0
   refine wp_growC0 11 12 [] [isV (.slice av qs.length cv),isV (.pointer (some ⟨wr.heap.size,0,none⟩)),isV (.bool P.lv),isV (.pointer (some ⟨wr.heap.size,1,none⟩)),isV (.slice P.aa P.ar.length P.ac),(ownR w11.heap.size 69 7 P.ar.length (P.ar.flatMap arL)),isV (.pointer (some ⟨wr.heap.size,2,none⟩)),isV (.agg (tsC P.ts)),(tabO w11.heap.size P.tb),(spcR w11.heap.size P.sp),(spcS w11.heap.size P.sp)] (by kernel_rfl) (by kernel_rfl) (by kernel_rfl) (by kernel_rfl) (by kernel_rfl) (by decide) (Nat.le_of_ble_eq_true (by kernel_rfl)) _ rfl (by kernel_rfl) (all_cons ?_ (all_cons ?_ (all_cons ?_ (all_cons ?_ (all_cons ?_ (all_cons ?_ (all_cons ?_ (all_cons ?_ (all_cons ?_ (all_cons ?_ (all_cons ?_ (all_nil)))))))))))) (all_nil) rfl ?_
   ·refine askedC_not rfl ?_
    intro ρ y W hw hn hb hd
    refine asked_val (.slice av qs.length cv) (want_free rfl) (run_move (.inl rfl) (hn (.const _) trivial)) rfl
   ·refine askedC_not rfl ?_
    intro ρ y W hw hn hb hd
    have E5:ρ (.tmp 5) = .pointer (some ⟨wr.heap.size,0,none⟩):=(hn (.tmp 5) rfl).trans rfl
    refine asked_val (.pointer (some ⟨wr.heap.size,0,none⟩)) (want_free rfl) (by simp [execOp,go_sem,E5]) rfl
   ·refine askedC_not rfl ?_
    intro ρ y W hw hn hb hd
    have E38:=hw 38 1 rfl
    have h1:y 1 = .pointer (some ⟨wr.heap.size,0,none⟩):=hd 1 rfl
    refine asked_val (.bool P.lv) (want_free rfl) (by simp [execOp,go_sem,E38,h1,(fx.ext hb).cell,psC]) rfl
   ·refine askedC_not rfl ?_
    intro ρ y W hw hn hb hd
    have E5:ρ (.tmp 5) = .pointer (some ⟨wr.heap.size,0,none⟩):=(hn (.tmp 5) rfl).trans rfl
    refine asked_val (.pointer (some ⟨wr.heap.size,1,none⟩)) (want_free rfl) (by simp [execOp,go_sem,E5]) rfl
   ·refine askedC_not rfl ?_
    intro ρ y W hw hn hb hd
    have E40:=hw 40 3 rfl
    have h3:y 3 = .pointer (some ⟨wr.heap.size,1,none⟩):=hd 3 rfl
    refine asked_val (.slice P.aa P.ar.length P.ac) (want_free rfl) (by simp [execOp,go_sem,E40,h3,(fx.ext hb).cell,psC]) rfl
   ·refine askedC_not rfl ?_
    intro ρ y W hw hn hb hd
    have E41:=hw 41 4 rfl
    have h4:y 4 = .slice P.aa P.ar.length P.ac:=hd 4 rfl
    have EF:∀ f,ρ (.func f) = .func (.func f) #[] #[]:=fun f=>hn (.func f) trivial
    refine asked_call _ _ (want_free rfl) (run_call rfl (EF _) Try.func59 (by kernel_rfl) (by kernel_rfl) (by simp only [List.map_toArray,List.map_cons,List.map_nil,E41,h4,EF]; rfl)) ?_
    have hA:=(hg11.below hb).ars
    refine (clone_areas P.ar P.aa P.ac W hA.le hA.nl hA.rd (by omega)).mono ?_
    rintro e w1 ⟨u,rfl,ho,hb1⟩
    exact ⟨u,rfl,hb1,ho.mono hb.size⟩
   ·refine askedC_not rfl ?_
    intro ρ y W hw hn hb hd
    have E5:ρ (.tmp 5) = .pointer (some ⟨wr.heap.size,0,none⟩):=(hn (.tmp 5) rfl).trans rfl
    refine asked_val (.pointer (some ⟨wr.heap.size,2,none⟩)) (want_free rfl) (by simp [execOp,go_sem,E5]) rfl
   ·refine askedC_not rfl ?_
    intro ρ y W hw hn hb hd
    have E43:=hw 43 6 rfl
    have h6:y 6 = .pointer (some ⟨wr.heap.size,2,none⟩):=hd 6 rfl
    refine asked_val (.agg (tsC P.ts)) (want_free rfl) (run_load_rd rfl (E43.trans h6) (blk_part (fx.ext hb) 2 8) Try.underlying63 tab_agg tab_size) rfl
   ·refine askedC_not rfl ?_
    intro ρ y W hw hn hb hd
    have E44:=hw 44 7 rfl
    have h7:y 7 = .agg (tsC P.ts):=hd 7 rfl
    have EF:∀ f,ρ (.func f) = .func (.func f) #[] #[]:=fun f=>hn (.func f) trivial
    refine asked_call _ _ (want_free rfl) (run_call rfl (EF _) Try.func60 (by kernel_rfl) (by kernel_rfl) (by simp only [List.map_toArray,List.map_cons,List.map_nil,E44,h7,EF]; rfl)) ?_
    refine (town_any P.tb (tsC P.ts) W (hg11.below hb).tb hz2).mono ?_
    rintro e w1 ⟨u,rfl,ho,hb1⟩
    exact ⟨_,rfl,hb1,u,rfl,ho.mono hb.size⟩
   ·refine askedC_not rfl ?_
    intro ρ y W hw hn hb hd
    have E39:=hw 39 2 rfl
    have h2:y 2 = .bool P.lv:=hd 2 rfl
    have E42:=hw 42 5 rfl
    have h5:((ownR w11.heap.size 69 7 P.ar.length (P.ar.flatMap arL))).r (y 5) W:=hd 5 rfl
    have E45:=hw 45 8 rfl
    have h8:((tabO w11.heap.size P.tb)).r (y 8) W:=hd 8 rfl
    obtain ⟨x5,c5,e5,_⟩:=Own.rd h5
    obtain ⟨cs8,e8,ho8⟩:=h8
    obtain ⟨v8,rfl⟩:=ts_of ho8.sz
    have hO5:Own W w11.heap.size 69 7 (.slice x5 P.ar.length c5) P.ar.length (P.ar.flatMap arL):=by rw [← e5]; exact h5
    refine asked_val (.agg (psC ⟨P.lv,x5,c5,P.ar,v8,P.tb⟩)) (want_free rfl) (by simp [execOp,go_sem,E39.trans h2,E42,e5,E45,e8,tsC,psC]) ?_
    exact ⟨⟨P.lv,x5,c5,P.ar,v8,P.tb⟩,rfl,rfl,hO5,ho8⟩
   ·refine askedC_not rfl ?_
    intro ρ y W hw hn hb hd
    have E46:=hw 46 9 rfl
    have h9:((spcR w11.heap.size P.sp)).r (y 9) W:=hd 9 rfl
    obtain ⟨p9,e9,hg9⟩:=h9
    refine asked_new (.slice (some ⟨W.heap.size,0,none⟩) 1 1) (want_free rfl) (by simp [execOp,go_sem,E46,e9,psC]) ((Below.refl _ _).alloc (Nat.le_refl _) (.cells (psC p9) 65)) ?_
    exact ⟨_,p9,rfl,RdV.new _ _ _,hg9.below ((Below.refl _ _).alloc (Nat.le_refl _) _)⟩
   intro ρ y WA o ho hw hn hV hbWA hRWA
   cases ho
   have hy0:y 0 = .slice av qs.length cv:=hRWA 0 (by decide)
   have hy1:y 1 = .pointer (some ⟨wr.heap.size,0,none⟩):=hRWA 1 (by decide)
   have hy2:y 2 = .bool P.lv:=hRWA 2 (by decide)
   have hy3:y 3 = .pointer (some ⟨wr.heap.size,1,none⟩):=hRWA 3 (by decide)
   have hy4:y 4 = .slice P.aa P.ar.length P.ac:=hRWA 4 (by decide)
   have hy5:((ownR w11.heap.size 69 7 P.ar.length (P.ar.flatMap arL))).r (y 5) WA:=hRWA 5 (by decide)
   have hy6:y 6 = .pointer (some ⟨wr.heap.size,2,none⟩):=hRWA 6 (by decide)
   have hy7:y 7 = .agg (tsC P.ts):=hRWA 7 (by decide)
   have hy8:((tabO w11.heap.size P.tb)).r (y 8) WA:=hRWA 8 (by decide)
   have hy9:((spcR w11.heap.size P.sp)).r (y 9) WA:=hRWA 9 (by decide)
   have hy10:((spcS w11.heap.size P.sp)).r (y 10) WA:=hRWA 10 (by decide)
   have E37:=hw 37 0 rfl
   rw [hy0] at E37
   have E47:=hw 47 10 rfl
   have EC:∀ v,ρ (.const v) = v:=fun v=>hn (.const v) trivial
   have EF:∀ f,ρ (.func f) = .func (.func f) #[] #[]:=fun f=>hn (.func f) trivial
   obtain ⟨g10,p10,e10,hrd10,hg10⟩:=hy10
   refine giv_app (want_free rfl) (run_app (.tmp 37) (.tmp 47) 38 rfl w.heap.size 65 _ 10 224 Try.underlying38 space_info rfl (by decide) _ _ _ E37 (hO.below hbWA) _ 1 1 (psL p10) (E47.trans e10) (fun e=>by cases e) (Nat.le_refl _) rfl hrd10 (psC_oneS hg10) (by unfold maxLen; omega) (by omega) (Nat.le_trans hgw.out hbWA.size)) ?_
   rintro v2 w13 ⟨hown13,hgr13,hcase13⟩
   clear hRWA hw hn hV
   simp only [lay,Nat.reduceAdd,Nat.reduceLT,Nat.reduceEqDiff,reduceIte,decide_true,decide_false,if_true,Bool.false_eq_true,if_false,List.setIfInBounds_toArray,List.set_cons_zero,List.set_cons_succ,List.drop_succ_cons,List.drop_zero,List.drop_nil,hy0,hy1,hy2,hy3,hy4,hy6,hy7]
   clear hy0 hy1 hy2 hy3 hy4 hy6 hy7
   have hOA:=hO.below hbWA
   have hbrA:=below_next hbr11 hbWA
   have hbr13:Below w.heap.size w w13:=hbrA.grown hgr13 hbrA.size (fun k hk=>hOA.ge k hk)
   have hown13' : Own w13 w.heap.size 65 10 v2 (qs ++ [p10]).length ((qs ++ [p10]).flatMap psL):=by
    rw [List.length_append,List.flatMap_append]; simpa using hown13
   obtain ⟨a13,c13,rfl,_⟩:=hown13'.rd
   have r1:=grow_own hOA hgr13 (q1.below hbWA) (by decide)
   have r2:=grow_own hOA hgr13 (q2.below hbWA) (by decide)
   have r3:DOwn w13 w.heap.size _ _ H.sw:=⟨grow_own hOA hgr13 (q3.below hbWA).b (by decide),grow_own hOA hgr13 (q3.below hbWA).q (by decide)⟩
   have r4:DOwn w13 w.heap.size _ _ H.dk:=⟨grow_own hOA hgr13 (q4.below hbWA).b (by decide),grow_own hOA hgr13 (q4.below hbWA).q (by decide)⟩
   have r5:=grow_fs hOA hgr13 (q5.below hbWA)
   have r6:=grow_own hOA hgr13 (q6.below hbWA) (by decide)
   have bx13:=grow_blk hOA hgr13 (bx11.ext hbWA) (by decide)
   have rx13:=grow_blk hOA hgr13 (rx11.ext hbWA) (by decide)
   have hps13:∀ p ∈ qs ++ [p10],spGood w13 w.heap.size p p.sp ∧ TbSz p.tb:=fun p hp=>by
    rcases List.mem_append.1 hp with hp | hp
    ·have h1:=(hps11 p hp).1.below hbWA
     exact ⟨⟨rfl,grow_own hOA hgr13 h1.2.1 (by decide),grow_tb hOA hgr13 h1.2.2⟩,(hps11 p hp).2⟩
    ·rw [List.mem_singleton.1 hp]
     refine ⟨⟨rfl,(grow_own hOA hgr13 hg10.2.1 (by decide)).mono hgw.out,(grow_tb hOA hgr13 hg10.2.2).mono hgw.out⟩,?_⟩
     have e:p10.tb = P.tb:=congrArg Sp.tb hg10.1
     rw [e]; exact hz2
   have hqs3:Hid ((qs ++ [p10]).map PS.sp = (H.sp.take (q + 1)).map PS.sp):=Lib.hid (by rw [List.map_append,← hqs2.out,← hg10.1]; rfl)
   clear hO hOA hbrA hbWA hown13 hgr13 hcase13 hg10 hrd10 fx hg11 bx11 rx11 q1 q2 q3 q4 q5 q6 hps11
   go_wp2
   go_roundw
   case rel=>exact ⟨q + 1,_,_,_,by omega,by go_num,rfl,hbr13,bx13,rx13,r1,r2,r3,r4,r5,r6,hown13',hps13,hqs3⟩
   case measure=>simp [intOf]; omega
  ·have hqi:¬ (q:Int) < (H.sp.length:Int):=by omega
   rw [List.take_of_length_le (by omega)] at hqs
   go_wp2_with (refine wpList_stv rfl _ _ _ rfl w.heap.size 10 _ [.slice av qs.length cv] rfl rfl rfl _ _ bx (by show 10 + 1 ≤ 11; decide) slsp_size (fun u hu=>by cases List.mem_singleton.1 hu; rfl) ?_)
   intro w11 bx11 hg11
   have hbr11:=hbr.grown hg11 hbr.size (fun k hk=>by cases hk; exact Nat.le_refl _)
   have rx11:=rx.grown hg11 (fun e=>by have:=Option.some.inj e; omega)
   obtain ⟨K,hK⟩:∃ K:MH,Hid (K = { G with ap:=av,cp:=cv,sp:=qs }):=⟨_,Lib.hid rfl⟩
   have bxK:Blk w11 w.heap.size (mhC K) 40:=by rw [hK.out]; exact bx11
   have hown:MaO w11 w.heap.size K:=by
    rw [hK.out,hG.out]
    exact ⟨own_keep p1 bx (by decide) hg11,own_keep p2 bx (by decide) hg11,p3.keep bx (by decide) (by decide) hg11,p4.keep bx (by decide) (by decide) hg11,p5.keep bx (by decide) (by decide) hg11,own_keep p6 bx (by decide) hg11,own_keep ho bx (by decide) hg11,fun p hp=>⟨own_keep (hps p hp).1.2.1 bx (by decide) hg11,(hps p hp).1.2.2.keep bx (by decide) hg11⟩,hks⟩
   have hma:K.ma = H.ma:=by
    rw [hK.out,hG.out]
    unfold MH.ma
    simp only
    rw [hqs.out,hst]
   have hsz:∀ p ∈ K.fi,∀ x,oB p.a = some x → oB K.asl ≠ some x:=by rw [hK.out,hG.out]; exact hn2.out
   clear hbr bx rx hg11 bx11 p1 p2 p3 p4 p5 p6 ho
   go_wp2_with (first | (refine wpList_ldg _ _ rfl w.heap.size 0 rfl rfl (mhC K).toList bxK.rd _ Try.underlying40 rfl mach_size ?_) | (refine wpList_stw rfl _ _ _ rfl (w.heap.size + 1) (mhC K) rfl rfl _ _ rx11 rfl mach_size (mhC_one K) ?_))
   intro w12 rx12 hg12
   have hbr12:=hbr11.grown hg12 hbr11.size (fun k hk=>by cases hk; omega)
   go_wp2
   refine bodyPost_ret (v:=.agg (mhC K)) (results_c Try.results13 _ _ (w.heap.size + 1) _ _ _ rfl rx12 Try.underlying40 rfl mach_size) rfl ?_
   exact ⟨K,rfl,hown.keep rx11 (by decide) hg12,hma,hsz,hbr12⟩
def bendF (m:Ma) (k:Nat) (n:Int):Ma:={ m with m:=⟨m.m.fs.set k { frN m k with r:=(frN m k).r + n },m.m.hand⟩ }
theorem bent_fr {m:Ma} (h:Rt m) {k:Nat} (hk:k < m.m.fs.length) {n:Int} (hn:n ≠ 0):wrongMa (bendF m k n) ≠ 0:=fun h0=>by
 have h2:=(rt_iff.1 h0).cf k (by show k < (m.m.fs.set k _).length; rw [List.length_set]; exact hk)
 have h1:=h.cf k hk
 have e:(frN (bendF m k n) k).r = (frN m k).r + n:=by
  unfold frN bendF
  show ((m.m.fs.set k _).getD k fr0).r = _
  rw [List.getD_eq_getElem?_getD,List.getElem?_set_self hk]; rfl
 have e1:caN (bendF m k n) k = caN m k:=rfl
 have e2:holdN (bendF m k n) 1 k = holdN m 1 k:=rfl
 rw [e,e1,e2] at h2
 omega
def bendS (m:Ma) (k:Nat) (n:Int):Ma:={ m with sl:=m.sl.set k (slN m k + n) }
theorem bent_sl {m:Ma} (h:Rt m) {k:Nat} (hk:k < m.sl.length) {n:Int} (hn:n ≠ 0):wrongMa (bendS m k n) ≠ 0:=fun h0=>by
 have h2:=(rt_iff.1 h0).cs k (by show k < (m.sl.set k _).length; rw [List.length_set]; exact hk)
 have h1:=h.cs k hk
 have e:slN (bendS m k n) k = slN m k + n:=by
  unfold slN bendS
  show (m.sl.set k _).getD k 0 = _
  rw [List.getD_eq_getElem?_getD,List.getElem?_set_self hk]; rfl
 have e2:holdN (bendS m k n) 2 k = holdN m 2 k:=rfl
 rw [e,e2] at h2
 omega
theorem tmod_in (a:Int) {f:Nat} (hf:0 < f):∃ k:Nat,k < f ∧ (Int.tmod (Int.tmod a f + f) f) = (k:Int) ∧ -(f:Int) < Int.tmod a f ∧ Int.tmod a f < f:=by
 have h1:Int.tmod a f < f:=Int.tmod_lt_of_pos a (by omega)
 have h2 : -(f:Int) < Int.tmod a f:=by
  have h0:=Int.tmod_lt_of_pos (-a) (show (0:Int) < f by omega)
  rw [Int.neg_tmod] at h0
  omega
 have h3:0 ≤ Int.tmod (Int.tmod a f + f) f:=Int.tmod_nonneg _ (by omega)
 have h4:Int.tmod (Int.tmod a f + f) f < f:=Int.tmod_lt_of_pos _ (by omega)
 exact ⟨(Int.tmod (Int.tmod a f + f) f).toNat,by omega,by omega,h2,h1⟩
theorem refs_put {X:Fr} {v:Int} {cur:Array Value} {o:Nat} (hfit:o + 13 ≤ cur.size) (hc:∀ j u,(frL X)[j]? = some u → cur[o + j]? = some u):putAt cur (o + 8) [.int .i64 v] = putAt cur o (frL { X with r:=v }):=
 putAt_sub (xs:=frL X) rfl hfit hc (by show 8 + 1 ≤ 13; omega) (fun i hi=>by
  obtain rfl:i = 0:=by simpa using hi
  rfl) (fun i hi=>by
  by_cases h13:i < 13
  ·match i,h13,hi with
   | 0,_,_=>rfl
   | 1,_,_=>rfl
   | 2,_,_=>rfl
   | 3,_,_=>rfl
   | 4,_,_=>rfl
   | 5,_,_=>rfl
   | 6,_,_=>rfl
   | 7,_,_=>rfl
   | 8,_,h=>exact absurd h (by simp)
   | 9,_,_=>rfl
   | 10,_,_=>rfl
   | 11,_,_=>rfl
   | 12,_,_=>rfl
  ·rw [List.getElem?_eq_none (by rw [frL_len]; omega),List.getElem?_eq_none (by rw [frL_len]; omega)])
theorem MaO.putS {w w' : World} {B:Nat} {H:MH} (h:MaO w B H) {g:Nat} {cs:Array Value} (hk:Blk w g cs 3) (hga:oB H.asl = some g) (hn:∀ p ∈ H.fi,∀ x,oB p.a = some x → oB H.asl ≠ some x) (hg:w.grownBy w' (some g)) {sl:List Int} (ho:Own w' B 3 1 (.slice H.asl sl.length H.csl) sl.length (sl.map inV)):MaO w' B { H with sl:=sl }:=
 ⟨own_keep h.fr hk (by decide) hg,ho,h.sw.keep hk (by decide) (by decide) hg,h.dk.keep hk (by decide) (by decide) hg,⟨own_keep h.st.own hk (by decide) hg,fun i p hp=>(h.st.each i p hp).grown hg (fun g' hg' e=>by
   cases e
   unfold pfV at hg'
   rw [oB_eq] at hg'
   exact hn p (List.mem_of_getElem? hp) _ hg' hga),h.st.apart⟩,own_keep h.ca hk (by decide) hg,own_keep h.sp hk (by decide) hg,fun p hp=>⟨own_keep (h.ps p hp).1 hk (by decide) hg,(h.ps p hp).2.keep hk (by decide) hg⟩,h.c64⟩
theorem machine_counts (cf cs cb:Int) (l:List UInt8) (al:Option Addr) (cl:Nat) (at' : Int) (more:Bool) (w:World) (hr:SlR w al cl l.length (l.map byV)) (hat : -9223372036854775808 ≤ at' ∧ at' ≤ 9223372036854775807) :
  Calls Try.prog 5 #[.agg #[.int .i64 cf,.int .i64 cs,.int .i64 cb],.slice al l.length cl,.int .i64 at',.bool more] w fun r w'=>r = .returned (.bool true) ∧ Below w.heap.size w w':=by
 go_enter Try.func5,Try.ntmps5
 go_upto_region 1 with (fail)
 refine abs1 (fun W=>Code.wp _ _ _ _ W) fun w1 hb1 cx1 hs1 => ?_
 have hr1:=hr.below hb1
 clear hr
 go_wp2_with fail
 refine (alive8 w1).mono ?_
 rintro r w2 ⟨rfl,hb2⟩
 have hr2:=hr1.below hb2
 have cx2:=cx1.ext hb2
 have hbr2:=below_next hb1 hb2
 clear hr1 cx1 hb1 hb2
 have hcc:=cx2.cell
 go_wp2_with fail
 refine (rbuild_any cf cs cb al cl l w2 hr2).mono ?_
 rintro r w3 ⟨H,rfl,ho,hb3,hRt,hCo,hFi,hfl,hdl,hsp,_⟩
 have hbr3:=below_next hbr2 hb3
 have hrd3:=ho.rd
 have hR:=Lib.hid hRt
 clear hr2 cx2 hcc hbr2 hb3 ho hRt hCo hFi hdl hsp
 go_wp2_with (refine wpList_stn rfl _ _ _ rfl (mhC H) rfl rfl rfl machine_size (mhC_one _) ?_)
 intro w4 hb4 bx4
 have hrd4:=hrd3.below hb4
 have hbr4:=below_next hbr3 hb4
 clear hrd3 hbr3 hb4
 go_wp2_with (refine wpList_ldg _ _ rfl w3.heap.size 0 rfl rfl _ bx4.rd _ Try.underlying40 rfl machine_size ?_)
 refine (machine_wrong H _ hrd4).mono ?_
 rintro r w5 ⟨rfl,hb5⟩
 rw [rt_iff.2 hR.out]
 have hrd5:=hrd4.below hb5
 have bx5:=bx4.ext hb5
 have hbr5:=below_next hbr4 hb5
 clear hrd4 bx4 hbr4 hb5
 generalize w3.heap.size = gm at *
 have hc:=bx5.cell
 unfold mhC at hc
 go_upto_if 28 with (fail)
 go_cut [10] (fun s10 wx => ∃ n:Int,s10 = .int .i64 n ∧ (n = 1 ∨ n = -1) ∧ wx = w5)
 case first=>
  cases more with
  | true=>
   go_wp2
   go_meet
   case rel=>exact ⟨1,rfl,.inl rfl,rfl⟩
  | false=>
   go_wp2
   go_meet
   case rel=>exact ⟨-1,rfl,.inr rfl,rfl⟩
 case rest=>
  obtain ⟨n,rfl,hn,rfl⟩:=hcut
  have hz:=Lib.hid (rt_maz hR.out)
  have hf40:H.m.fs.length ≤ 40:=((wrongM_iff _).1 hR.out.pt.fr).1
  have hs60:H.sl.length ≤ 60:=wrongS_len hR.out.pt.sl
  have hn2 : -1 ≤ n ∧ n ≤ 1:=by omega
  have hn':=Lib.hid hn
  clear hfl hn
  go_upto_if 33 with (fail)
  go_cut [] (fun wx=>Below w.heap.size w wx ∧ MaR wx H ∧ Blk wx gm (mhC H) 40)
  case first=>
   by_cases hf0:0 < H.m.fs.length
   ·have hfi:(0:Int) < (H.m.fs.length:Int):=by omega
    go_wp2_with (refine wpList_ldg _ _ rfl gm 0 rfl rfl _ bx5.rd _ Try.underlying40 rfl machine_size ?_)
    refine (machine_own2 H _ hrd5 hz.out).mono ?_
    rintro r w6 ⟨H',rfl,ho6,hma,_,hb6⟩
    have hK:=Lib.hid (And.intro hbr5 (And.intro hrd5 bx5))
    have hfl' : Hid (H'.m.fs.length = H.m.fs.length):=Lib.hid (congrArg (fun m:Ma=>m.m.fs.length) hma)
    have hma':=Lib.hid hma
    clear hrd5 bx5 hbr5 hma hc
    go_wp2_with (refine wpList_stn rfl _ _ _ rfl (mhC H') rfl rfl rfl machine_size (mhC_one _) ?_)
    intro w7 hb7 kx7
    have ho7:=ho6.below hb7
    have hbc7:=below_next hb6 hb7
    have hgB6:wc.heap.size ≤ w6.heap.size:=hb6.size
    clear ho6 hb7 hb6
    generalize w6.heap.size = gk at *
    obtain ⟨k,hk,hke,ht1,ht2⟩:=tmod_in at' hf0
    obtain ⟨g,off,cap,cur,hv,hgB,hg,hgs,hgc,hgw⟩:=ho7.fr.put frL_len (by decide) k (by rw [hfl'.out]; exact hk)
    have haf:H'.af = some ⟨g,off,none⟩:=(Value.slice.inj hv).1
    have haf':=Lib.hid haf
    have hgw':=Lib.hid hgw
    have hgc':=Lib.hid hgc
    have hkk:=Lib.hid hke
    clear hv haf hgw hgc hke
    have hfne:¬ H.m.fs = []:=fun e=>by rw [e] at hf0; exact absurd hf0 (by decide)
    have hwa:IntKind.i64.wrap (Int.tmod at' (H.m.fs.length:Int) + (H.m.fs.length:Int)) = Int.tmod at' (H.m.fs.length:Int) + (H.m.fs.length:Int):=IntWalk.i64_in _ (by omega)
    have hwb:IntKind.i64.wrap (Int.tmod at' (H.m.fs.length:Int)) = Int.tmod at' (H.m.fs.length:Int):=IntWalk.i64_in _ (by omega)
    have hwk:IntKind.i64.wrap (k:Int) = (k:Int):=IntWalk.i64_in _ (by omega)
    go_upto_region 11 with (fail)
    refine wp_growP 21 [_,_,_,_,_,_,_,_,_,_,_,_,_,_,_,_,_,_,_,_,.v (.pointer (some ⟨g,off + k * 13,none⟩))] (Gf gk 0 rfl rfl (Gf gk 0 rfl rfl (Gl kx7 (V:=.slice (some ⟨g,off,none⟩) H.m.fs.length H'.cf) (by simp [mhC,haf'.out,hfl'.out]) rfl rfl rfl rfl (Gk rfl (Gf gk 0 rfl rfl (Gf gk 0 rfl rfl (Gl kx7 (V:=.slice (some ⟨g,off,none⟩) H.m.fs.length H'.cf) (by simp [mhC,haf'.out,hfl'.out]) rfl rfl rfl rfl (Gn rfl rfl rfl rfl (Gb (.int .i64 (Int.tmod at' (H.m.fs.length:Int))) (by simp [go_sem,hfne,hwb]) rfl rfl rfl rfl rfl (Gf gk 0 rfl rfl (Gf gk 0 rfl rfl (Gl kx7 (V:=.slice (some ⟨g,off,none⟩) H.m.fs.length H'.cf) (by simp [mhC,haf'.out,hfl'.out]) rfl rfl rfl rfl (Gn rfl rfl rfl rfl (Gb (.int .i64 (Int.tmod at' (H.m.fs.length:Int) + (H.m.fs.length:Int))) (by simp [go_sem,hwa]) rfl rfl rfl rfl rfl (Gf gk 0 rfl rfl (Gf gk 0 rfl rfl (Gl kx7 (V:=.slice (some ⟨g,off,none⟩) H.m.fs.length H'.cf) (by simp [mhC,haf'.out,hfl'.out]) rfl rfl rfl rfl (Gn rfl rfl rfl rfl (Gb (.int .i64 (k:Int)) (by simp [go_sem,hfne,hkk.out,hwk]) rfl rfl rfl rfl rfl (Gr (.pointer (some ⟨g,off + k * 13,none⟩)) (fun ρ y W hb hKn=>(run_idx rfl (kx_at rfl hKn) (kx_at rfl hKn) hk Try.underlying25 frame_size)) rfl rfl (Gk rfl (all_nil)))))))))))))))))))))) (fun _=>rfl) rfl ?_
    intro y W8 hbW8 _
    have ho8:=ho7.below hbW8
    have hbc8:=below_next hbc7 hbW8
    have kx8:=kx7.ext hbW8
    have hg8:=hg.ext hbW8
    have hgW:=hbW8.size
    have hfrk:Hid (H'.m.fs[k]'(by rw [hfl'.out]; exact hk) = frN H.ma k):=Lib.hid (by
     rw [← hma'.out]
     unfold frN
     show _ = H'.m.fs.getD k fr0
     rw [List.getD_eq_getElem?_getD,List.getElem?_eq_getElem (by rw [hfl'.out]; exact hk)]; rfl)
    have hfw:=hR.out.fewR (f:=k) hk
    have c8:W8.cell? ⟨g,off + k * 13 + 8,none⟩ = some (.int .i64 (frN H.ma k).r):=by
     have h1:=hgc'.out 8 (.int .i64 (frN H.ma k).r) (by rw [hfrk.out]; rfl)
     rw [hg.cell] at h1
     rw [hg8.cell]; exact h1
    have hcu:Hid (∀ j u,(frL (frN H.ma k))[j]? = some u → cur[off + k * 13 + j]? = some u):=Lib.hid fun j u hj=>by
     have h1:=hgc'.out j u (by rw [hfrk.out]; exact hj)
     rw [hg.cell] at h1
     exact h1
    have hgk:Hid (gk < W8.heap.size):=Lib.hid kx8.lt
    clear ho7 hbc7 kx7 hg hbW8 hgc' hwa hwb hwk hgW
    generalize hX:frN H.ma k = X at c8 hfw hcu hfrk
    have hX':=Lib.hid hX
    clear hX
    have hw1:IntKind.i64.wrap (X.r + n) = X.r + n:=IntWalk.i64_in _ (by omega)
    go_wp2_with (refine wpList_stv rfl _ _ _ rfl g (off + k * 13 + 8) _ [.int .i64 (X.r + n)] rfl rfl rfl _ _ hg8 (by show off + k * 13 + 8 + 1 ≤ cur.size; omega) (by kernel_rfl) (fun u hu=>by cases List.mem_singleton.1 hu; rfl) ?_)
    intro w9 hb9 hg9
    rw [refs_put hgs hcu.out] at hb9
    have hof:=hgw'.out w9 { X with r:=X.r + n } hb9
    have ho9:MaO w9 wc.heap.size { H' with m:=⟨H'.m.fs.set k { X with r:=X.r + n },H'.m.hand⟩ }:=ho8.putF (m:=⟨H'.m.fs.set k { X with r:=X.r + n },H'.m.hand⟩) hg8 hg9 (by simpa using hof)
    have hbc9:=hbc8.grown hg9 hbc8.size (fun k hk=>by cases hk; exact hgB)
    have kx9:=blk_keep kx8 hg8 (by decide) hg9
    have hlen9:(H'.m.fs.set k { X with r:=X.r + n }).length = H'.m.fs.length:=List.length_set
    have kx9:Blk w9 gk (mhC { H' with m:=⟨H'.m.fs.set k { X with r:=X.r + n },H'.m.hand⟩ }) 40:=by
     unfold mhC
     dsimp only
     rw [hlen9]
     exact kx9
    have hma9:Hid (MH.ma { H' with m:=⟨H'.m.fs.set k { X with r:=X.r + n },H'.m.hand⟩ } = bendF H.ma k n):=Lib.hid (by
     rw [← hX'.out]
     unfold bendF
     rw [← hma'.out]; rfl)
    clear ho8 hbc8 kx8 hg8 hgs hcu c8 hb9 hg9 hof hgw' hlen9 hw1
    have hrd9:=ho9.rd
    clear ho9
    generalize ({ H' with m:=⟨H'.m.fs.set k { X with r:=X.r + n },H'.m.hand⟩ }:MH) = H9 at kx9 hma9 hrd9
    go_wp2_with (refine wpList_ldg _ _ rfl gk 0 rfl rfl _ kx9.rd _ Try.underlying40 rfl machine_size ?_)
    refine (machine_wrong H9 _ hrd9).mono ?_
    rintro r w10 ⟨rfl,hb10⟩
    have hE:wrongMa H9.ma ≠ 0:=by rw [hma9.out]; exact bent_fr hR.out hk (by have:=hn'.out; omega)
    have hbc10:=below_next hbc9 hb10
    clear hrd9 kx9 hb10 hbc9
    generalize wrongMa H9.ma = E at hE
    go_wp2
    go_meet
    case rel=>exact ⟨below_next hK.out.1 hbc10,hK.out.2.1.below hbc10,hK.out.2.2.ext hbc10⟩
   ·have hfi:¬ (0:Int) < (H.m.fs.length:Int):=by omega
    go_wp2
    go_meet
    case rel=>exact ⟨hbr5,hrd5,bx5⟩
  case rest=>
   obtain ⟨hbr5,hrd5,bx5⟩:=hcut
   clear hc
   have hc:=bx5.cell
   unfold mhC at hc
   by_cases hs0:0 < H.sl.length
   ·have hfi:(0:Int) < (H.sl.length:Int):=by omega
    go_wp2_with (refine wpList_ldg _ _ rfl gm 0 rfl rfl _ bx5.rd _ Try.underlying40 rfl machine_size ?_)
    refine (machine_own2 H _ hrd5 hz.out).mono ?_
    rintro r w6 ⟨H',rfl,ho6,hma,hn2',hb6⟩
    have hK:=Lib.hid (And.intro hbr5 (And.intro hrd5 bx5))
    have hfl' : Hid (H'.sl.length = H.sl.length):=Lib.hid (congrArg (fun m:Ma=>m.sl.length) hma)
    have hma':=Lib.hid hma
    have hnn2:=Lib.hid hn2'
    clear hrd5 bx5 hbr5 hma hc hn2'
    go_wp2_with (refine wpList_stn rfl _ _ _ rfl (mhC H') rfl rfl rfl machine_size (mhC_one _) ?_)
    intro w7 hb7 kx7
    have ho7:=ho6.below hb7
    have hbc7:=below_next hb6 hb7
    have hgB6:wc.heap.size ≤ w6.heap.size:=hb6.size
    clear ho6 hb7 hb6
    generalize w6.heap.size = gk at *
    obtain ⟨k,hk,hke,ht1,ht2⟩:=tmod_in at' hs0
    obtain ⟨g,off,cap,cur,hv,hgB,hg,hgs,hgc,hgw⟩:=Own.put (enc:=fun x=>[inV x]) (sz:=1) (l:=H'.sl) (fun _=>rfl) Nat.one_pos (by rw [flat_one]; exact ho7.sl) k (by rw [hfl'.out]; exact hk)
    rw [Nat.mul_one] at hgs hgc hgw
    have haf:H'.asl = some ⟨g,off,none⟩:=(Value.slice.inj hv).1
    have haf':=Lib.hid haf
    have hgw':=Lib.hid hgw
    have hv0:Hid (H'.sl[k]'(by rw [hfl'.out]; exact hk) = slN H.ma k):=Lib.hid (by
     rw [← hma'.out]
     unfold slN
     show _ = H'.sl.getD k 0
     rw [List.getD_eq_getElem?_getD,List.getElem?_eq_getElem (by rw [hfl'.out]; exact hk)]; rfl)
    have hfw:=hR.out.fewS (s:=k) hk
    have hc0:∀ W,Below w7.heap.size w7 W → W.cell? ⟨g,off + k,none⟩ = some (.int .i64 (slN H.ma k)):=fun W hb=>by
     have h9:=hgc 0 _ rfl
     rw [Nat.add_zero,hv0.out] at h9
     rw [(hg.ext hb).cell,← hg.cell]; exact h9
    have hkk:=Lib.hid hke
    clear hv haf hgw hgc hke
    generalize hX:slN H.ma k = X at hfw hc0 hv0
    have hX':=Lib.hid hX
    clear hX
    have hfne:¬ H.sl = []:=fun e=>by rw [e] at hs0; exact absurd hs0 (by decide)
    have hwa:IntKind.i64.wrap (Int.tmod at' (H.sl.length:Int) + (H.sl.length:Int)) = Int.tmod at' (H.sl.length:Int) + (H.sl.length:Int):=IntWalk.i64_in _ (by omega)
    have hwb:IntKind.i64.wrap (Int.tmod at' (H.sl.length:Int)) = Int.tmod at' (H.sl.length:Int):=IntWalk.i64_in _ (by omega)
    have hwk:IntKind.i64.wrap (k:Int) = (k:Int):=IntWalk.i64_in _ (by omega)
    have hw1:IntKind.i64.wrap (X + n) = X + n:=IntWalk.i64_in _ (by omega)
    go_upto_region 17 with (fail)
    refine wp_growP 20 [_,_,_,_,_,_,_,_,_,_,_,_,_,_,_,_,_,_,_,_] (Gf gk 2 rfl rfl (Gl kx7 (V:=.slice (some ⟨g,off,none⟩) H.sl.length H'.csl) (by simp [mhC,haf'.out,hfl'.out]) rfl rfl rfl rfl (Gk rfl (Gf gk 2 rfl rfl (Gl kx7 (V:=.slice (some ⟨g,off,none⟩) H.sl.length H'.csl) (by simp [mhC,haf'.out,hfl'.out]) rfl rfl rfl rfl (Gn rfl rfl rfl rfl (Gb (.int .i64 (Int.tmod at' (H.sl.length:Int))) (by simp [go_sem,hfne,hwb]) rfl rfl rfl rfl rfl (Gf gk 2 rfl rfl (Gl kx7 (V:=.slice (some ⟨g,off,none⟩) H.sl.length H'.csl) (by simp [mhC,haf'.out,hfl'.out]) rfl rfl rfl rfl (Gn rfl rfl rfl rfl (Gb (.int .i64 (Int.tmod at' (H.sl.length:Int) + (H.sl.length:Int))) (by simp [go_sem,hwa]) rfl rfl rfl rfl rfl (Gf gk 2 rfl rfl (Gl kx7 (V:=.slice (some ⟨g,off,none⟩) H.sl.length H'.csl) (by simp [mhC,haf'.out,hfl'.out]) rfl rfl rfl rfl (Gn rfl rfl rfl rfl (Gb (.int .i64 (k:Int)) (by simp [go_sem,hfne,hkk.out,hwk]) rfl rfl rfl rfl rfl (Gr (.pointer (some ⟨g,off + k,none⟩)) (fun ρ y W hb hKn=>(run_idxS rfl (kx_at rfl hKn) (kx_at rfl hKn) hk)) rfl rfl (Gc (.int .i64 X) (fun W hb=>by simp [hc0 W hb]) rfl rfl rfl rfl (Gk rfl (Gb (.int .i64 (X + n)) (by simp [go_sem,hw1]) rfl rfl rfl rfl rfl (Gr (.pointer (some ⟨g,off + k,none⟩)) (fun ρ y W hb hKn=>(run_idxS rfl (kx_at rfl hKn) (kx_at rfl hKn) hk)) rfl rfl (all_nil))))))))))))))))))))) (fun _=>rfl) rfl ?_
    intro y W8 hbW8 _
    have ho8:=ho7.below hbW8
    have hbc8:=below_next hbc7 hbW8
    have kx8:=kx7.ext hbW8
    have hg8:=hg.ext hbW8
    clear ho7 hbc7 kx7 hg hbW8 hwa hwb hwk hc0
    go_wp2_with (refine wpList_stv rfl _ _ _ rfl g (off + k) _ [.int .i64 (X + n)] rfl rfl rfl _ _ hg8 (by show off + k + 1 ≤ cur.size; omega) (by kernel_rfl) (fun u hu=>by cases List.mem_singleton.1 hu; rfl) ?_)
    intro w9 hb9 hg9
    have hof:=hgw'.out w9 (X + n) hb9
    rw [flat_one] at hof
    have ho9:MaO w9 wc.heap.size { H' with sl:=H'.sl.set k (X + n) }:=ho8.putS hg8 (by rw [haf'.out]; rfl) hnn2.out hg9 (by simpa using hof)
    have hbc9:=hbc8.grown hg9 hbc8.size (fun k hk=>by cases hk; exact hgB)
    have kx9:=blk_keep kx8 hg8 (by decide) hg9
    have hlen9:(H'.sl.set k (X + n)).length = H'.sl.length:=List.length_set
    have kx9:Blk w9 gk (mhC { H' with sl:=H'.sl.set k (X + n) }) 40:=by
     unfold mhC
     dsimp only
     rw [hlen9]
     exact kx9
    have hma9:Hid (MH.ma { H' with sl:=H'.sl.set k (X + n) } = bendS H.ma k n):=Lib.hid (by
     rw [← hX'.out]
     unfold bendS
     rw [← hma'.out]; rfl)
    clear ho8 hbc8 kx8 hg8 hgs hb9 hg9 hof hgw' hlen9 hw1
    have hrd9:=ho9.rd
    clear ho9
    generalize ({ H' with sl:=H'.sl.set k (X + n) }:MH) = H9 at kx9 hma9 hrd9
    go_wp2_with (refine wpList_ldg _ _ rfl gk 0 rfl rfl _ kx9.rd _ Try.underlying40 rfl machine_size ?_)
    refine (machine_wrong H9 _ hrd9).mono ?_
    rintro r w10 ⟨rfl,hb10⟩
    have hE:wrongMa H9.ma ≠ 0:=by rw [hma9.out]; exact bent_sl hR.out hk (by have:=hn'.out; omega)
    have hbc10:=below_next hbc9 hb10
    clear hrd9 kx9 hb10 hbc9
    generalize wrongMa H9.ma = E at hE
    go_wp2
    go_ret
    exact ⟨rfl,below_next hK.out.1 hbc10⟩
   ·have hfi:¬ (0:Int) < (H.sl.length:Int):=by omega
    go_wp2
    go_ret
    exact ⟨rfl,hbr5⟩
open Go.ChangeShapes Go.WideShapes Go.ChangeAt
theorem opens_cfg:OpensW Try.prog 23 (fun x:Int × Int × Int=>[.int .i64 x.1,.int .i64 x.2.1,.int .i64 x.2.2]) (fun _ x=>i64 x.1 ∧ i64 x.2.1 ∧ i64 x.2.2):=
 (opens_struct Try.underlying23 (opensFrom_cons rfl 1 rfl (by kernel_rfl) (opens_int Try.underlying3).w (opensFrom_cons rfl 2 rfl (by kernel_rfl) (opens_int Try.underlying3).w (opensFrom_cons rfl 3 rfl (by kernel_rfl) (opens_int Try.underlying3).w (opensFrom_nil (by kernel_rfl)))))).of (fun x=>(x.1,x.2.1,x.2.2.1)) (fun _=>rfl) (fun _ _ h=>⟨h.1,h.2.1,h.2.2.1⟩)
theorem config_arg {W:World} {base base' : Nat} {H:Type} {en:TypeId × Value → H} {spare:Nat → Bool} {held:Bool} {fuel:Nat} {v:Value} {x:DataW H × List MemPlace} (hv:Value.okWide Try.prog W .any base 23 v) (h:DataW.trod en Try.prog W base' spare held fuel 23 v.cells.toList = some x) :
  ∃ f s b:Int,v = .agg #[.int .i64 f,.int .i64 s,.int .i64 b] ∧ i64 f ∧ i64 s ∧ i64 b:=by
 obtain ⟨cs,rfl,_⟩:=okWide_struct Try.underlying23 hv
 obtain ⟨⟨f,s,b⟩,hcs,g1,g2,g3⟩:=opens_cfg _ _ _ _ _ _ _ _ _ h
 refine ⟨f,s,b,?_,g1,g2,g3⟩
 congr 1
 apply Array.ext'
 simpa [Value.cells] using hcs
end Go.Proofs.Ytkjobhcnlppcnaa