import Derived.Test.YtkjobhcnlppcnaaV3
import Derived.BigRegion
import Derived.ArgAppend
import Derived.Deep.DeepCutAuto
set_option linter.unusedSimpArgs false
set_option linter.unusedVariables false
set_option maxHeartbeats 4000000
set_option maxRecDepth 100000
namespace Go.Proofs.Ytkjobhcnlppcnaa
open Go.RowKit Pw
theorem zw (t : Tb) (cs : Array Value) (w : World) (h : yj w cs t) : Calls Try.prog 90 #[.agg cs] w fun r w' => r = .returned (.int .i64 (bB t)) ∧ Below w.heap.size w w' := by
  go_enter Try.func90, Try.ntmps90
  go_upto_region 1 with (fail)
  refine eO (fun W => Code.wp _ _ _ _ W) fun W0 hb0 hx0 hs0 => ?_
  clear hs0
  go_wp2_with (refine fM rfl 63 (.tmp 1) rfl w.heap.size 0 rfl cs.toList hx0.rd _ Try.underlying63 tab_agg (by rw [Array.length_toList, h.sz]; exact tab_size) ?_)
  clear hx0
  go_loopw [9] (fun i wr => ∃ k : Nat, k ≤ 8 ∧ i = .int .i64 k ∧ Below w.heap.size w wr ∧ ∀ i (hi : i < 8), i < k → gG t[i] = 0) (fun i _ => 8 - (intOf i).toNat)
  case atStart => exact ⟨0, Nat.zero_le _, rfl, hb0, fun i _ h => absurd h (Nat.not_lt_zero _)⟩
  case round =>
    obtain ⟨k, hk, rfl, hbr, hp0⟩ := hrel
    have hp := Lib.hid hp0
    clear hp0 hb0
    by_cases hlt : k < 8
    · obtain ⟨a, c, hcs, hle, hmx, hnil, hrd⟩ := h.at' k hlt
      have hix := fun W => sU hlt hcs W
      have hd8 : decide ((k : Int) < 8) = true := by simp; omega
      unfold maxLen at hmx
      clear hcs
      by_cases h08 : t[k].length = 0 ∨ t[k].length = 8
      · have H08 := Lib.hid h08
        have hl8 : t[k].length ≤ 8 := by omega
        have q1 : ((t[k].length : Int) != 0) = true ∧ ((t[k].length : Int) != 8) = false ∨ ((t[k].length : Int) != 0) = false ∧ ((t[k].length : Int) != 8) = true := by
          rcases h08 with e | e <;> simp [e]
        clear h08
        rcases q1 with ⟨q1, q2⟩ | ⟨q1, q2⟩
        all_goals
          go_wp2
          clear hix
          go_loopw [22, 5] (fun i s wr' => ∃ j c : Nat, j ≤ t[k].length ∧ c ≤ j ∧ i = .int .i64 j ∧ s = .int .i64 c ∧ Below w.heap.size w wr' ∧ Hid (c = 0 ↔ nZ t[k] j = false) ∧ ∀ i (hi : i < t[k].length), i < j → cO t[k][i] = 0) (fun i _ _ => t[k].length - (intOf i).toNat)
          case atStart => exact ⟨0, 0, Nat.zero_le _, Nat.le_refl _, rfl, rfl, hbr, Lib.hid (by simp [Dm]), fun i _ h => absurd h (Nat.not_lt_zero _)⟩
          case round =>
            obtain ⟨j, n, hj, hnj, rfl, rfl, hbq, hn0, hq0⟩ := hrel
            have hq := Lib.hid hq0
            clear hq0 hbr
            by_cases hjl : j < t[k].length
            · obtain ⟨b, off, rfl, c0, c1, c2⟩ := yO (hrd.below hbq) j hjl
              go_upto_region 10 with (fail)
              refine eO (fun W => Code.wp _ _ _ _ W) fun W3 hb3 hx3 hs3 => ?_
              have hbel3 := ag hbq hb3
              have hx4 := hx3.cell
              have hfin : Hid (cO t[k][j] ≠ 0 → bB t = cO t[k][j]) := Lib.hid (fun he => (jS k hlt hp.out (by rw [pU H08.out j hjl hq.out he]; exact he)).trans (pU H08.out j hjl hq.out he))
              have hok : Hid (cO t[k][j] = 0 → ∀ i (hi : i < t[k].length), i < j + 1 → cO t[k][i] = 0) := Lib.hid (fun he => jv hq.out hjl he)
              have hai : Hid (0 ≤ t[k][j].k → ((0 < t[k][j].k) → (n + 1 = 0 ↔ nZ t[k] (j + 1) = false)) ∧ (¬ 0 < t[k][j].k → (n = 0 ↔ nZ t[k] (j + 1) = false))) := Lib.hid (ED hjl hn0.out)
              clear hbq hs3 c0 c1 c2 hb3 hx3 hq hp hn0
              generalize t[k][j] = E at hx4 hfin hok hai
              go_wp2
              all_goals first
                | (go_ret
                   refine ⟨aQ ?_, hbel3⟩
                   clear hx4 hok hai
                   go_light
                   have he : cO E ≠ 0 → bB t = cO E := hfin.out
                   clear hfin
                   unfold cO at he
                   simp_all <;> omega)
                | (have he : cO E = 0 := by
                     clear hx4 hok hai hfin
                     go_light
                     unfold cO
                     simp_all <;> omega
                   have hk0 : 0 ≤ E.k := by
                     clear hx4 hok hai hfin he
                     go_light
                     omega
                   have hq2 := Lib.hid (hok.out he)
                   have ha2 := Lib.hid (hai.out hk0)
                   clear hai hok hfin he hx4
                   have hkp : 0 < E.k := by
                     go_light
                     omega
                   have ha3 := Lib.hid (ha2.out.1 hkp)
                   clear ha2
                   go_roundw
                   case rel => exact ⟨j + 1, n + 1, by omega, by omega, by go_num, by go_num, hbel3, ha3, hq2.out⟩
                   case measure => simp [intOf]; omega)
                | (have he : cO E = 0 := by
                     clear hx4 hok hai hfin
                     go_light
                     unfold cO
                     simp_all <;> omega
                   have hk0 : 0 ≤ E.k := by
                     clear hx4 hok hai hfin he
                     go_light
                     omega
                   have hq2 := Lib.hid (hok.out he)
                   have ha2 := Lib.hid (hai.out hk0)
                   clear hai hok hfin he hx4
                   have hkp : ¬ 0 < E.k := by
                     go_light
                     omega
                   have ha3 := Lib.hid (ha2.out.2 hkp)
                   clear ha2
                   go_roundw
                   case rel => exact ⟨j + 1, n, by omega, by omega, by go_num, rfl, hbel3, ha3, hq2.out⟩
                   case measure => simp [intOf]; omega)
            · have hend := Lib.hid (nT H08.out fun i hi => hq.out i hi (by omega))
              have hall := ym t[k] j (by omega)
              by_cases hgo : t[k].length = 8 ∧ n = 0
              · obtain ⟨g1, g2⟩ := hgo
                have hfin2 := Lib.hid (hend.out.trans (if_pos ⟨by omega, by rw [← hall]; exact hn0.out.1 g2⟩))
                have hfin := Lib.hid (jS k hlt hp.out (by rw [hfin2.out]; decide))
                have g3 : ((t[k].length : Int) == 8) = true := by rw [beq_iff_eq]; omega
                subst g2
                clear hall g1
                go_wp2
                go_ret
                exact ⟨aQ (hfin.out.trans hfin2.out).symm, hbq⟩
              · have hfin2 := Lib.hid (hend.out.trans (if_neg (fun h => hgo ⟨by have := H08.out; omega, hn0.out.2 (hall.trans h.2)⟩)))
                have hgo2 : ((t[k].length : Int) == 8) = false ∨ ((t[k].length : Int) == 8) = true ∧ ((n : Int) == 0) = false := by
                  by_cases hz : t[k].length = 8
                  · exact .inr ⟨by rw [beq_iff_eq]; omega, by rw [beq_eq_false_iff_ne]; omega⟩
                  · exact .inl (by rw [beq_eq_false_iff_ne]; omega)
                clear hgo hall
                rcases hgo2 with g1 | ⟨g1, g2⟩
                all_goals
                  go_wp2
                  go_roundw
                  case rel => exact ⟨k + 1, by omega, by go_num, hbq, jv hp.out hlt hfin2.out⟩
                  case measure => simp [intOf]; omega
      · have q1 : ((t[k].length : Int) != 0) = true := by rw [bne_iff_ne]; omega
        have q2 : ((t[k].length : Int) != 8) = true := by rw [bne_iff_ne]; omega
        have hfin2 := Lib.hid (pG (h := t[k]) (by omega))
        have hfin := Lib.hid (jS k hlt hp.out (by rw [hfin2.out]; decide))
        go_wp2
        go_ret
        exact ⟨aQ (hfin.out.trans hfin2.out).symm, hbr⟩
    · have hfin := Lib.hid (mV fun i hi => hp.out i hi (by omega))
      go_wp2
      go_ret
      exact ⟨aQ hfin.out.symm, hbr⟩
theorem Kj (f g:En) (b:Bool) (h:(f==g)=b) (W:World):(Op.equalIn 10000 67 (.agg #[.int .i64 f.k,.int .i64 f.n,.bool f.w]) (.agg #[.int .i64 g.k,.int .i64 g.n,.bool g.w])).run Try.prog W = .ok b W:=by
 rw[←h,Jo]
 by_cases h1:(f.k==g.k)=true
 ·by_cases h2:(f.n==g.n)=true
  ·by_cases h3:f.w=g.w<;>simp[go_sem,h1,h2,h3]
  ·simp[go_sem,h1,h2]
 ·simp[go_sem,h1]
theorem CX (t u:Tb) (cs ds:Array Value) (w:World) (h:yj w cs t) (h' : yj w ds u):Calls Try.prog 53 #[.agg cs,.agg ds] w fun r w'=>r = .returned (.bool (vX t u))∧Below w.heap.size w w':=by
 go_enter Try.func53,Try.ntmps53
 go_upto_region 1 with (fail)
 refine pz (fun W=>Code.wp _ _ _ _ W) fun W0 hb0 hx0 hy0 hs0 => ?_
 clear hs0
 go_wp2
 go_loopw [7] (fun i wr => ∃k:Nat,k≤8∧i = .int .i64 k∧Below w.heap.size w wr∧aC wr w.heap.size cs 63∧aC wr (w.heap.size+1) ds 63∧∀i (hi:i<8),i<k→t[i]=u[i]) (fun i _=>8-(intOf i).toNat)
 case atStart=>exact⟨0,Nat.zero_le _,rfl,hb0,hx0,hy0,fun i _ h=>absurd h (Nat.not_lt_zero _)⟩
 case round=>
  obtain⟨k,hk,rfl,hbr,hx,hy,hp0⟩:=hrel
  have hp:=Lib.hid hp0
  clear hp0 hb0 hx0 hy0
  by_cases hlt:k<8
  ·obtain⟨a,c,hcs,hle,hmx,hnil,hrd⟩:=h.at' k hlt
   obtain⟨a',c',hds,hle',hmx',hnil',hrd'⟩:=h'.at' k hlt
   have hd8:decide ((k:Int)<8)=true:=by simp;omega
   have hk8:(k:Int)<8:=by omega
   unfold maxLen at hmx hmx'
   have HC:=Lib.hid hcs
   have HD:=Lib.hid hds
   have hcx:=(hx.cell k).trans hcs
   have hcy:=(hy.cell k).trans hds
   clear hcs hds
   by_cases hl:t[k].length=u[k].length
   ·have hl':=Lib.hid hl
    have hne:((t[k].length:Int) != (u[k].length:Int))=false:=by simp[hl]
    clear hl
    go_wp2_with fail
    go_quiet (fail)
    go_wp2
    clear hcx hcy
    generalize hW1:wr.drewN _=w1
    have hbr1:Below w.heap.size w w1:=by rw[←hW1];exact below_drewN hbr _
    have hx1:aC w1 w.heap.size cs 63:=by rw[←hW1];exact hx.drewN _
    have hy1:aC w1 (w.heap.size+1) ds 63:=by rw[←hW1];exact hy.drewN _
    clear hW1 hbr hx hy
    go_loopw [23] (fun i wr => ∃j:Nat,j≤t[k].length∧i = .int .i64 j∧Below w.heap.size w wr∧aC wr w.heap.size cs 63∧aC wr (w.heap.size+1) ds 63∧∀i (hi:i<t[k].length),i<j→t[k][i]=u[k][i]'(by have:=hl'.out;omega)) (fun i _=>t[k].length-(intOf i).toNat)
    case atStart=>exact⟨0,Nat.zero_le _,rfl,hbr1,hx1,hy1,fun i _ h=>absurd h (Nat.not_lt_zero _)⟩
    case round=>
     obtain⟨j,hj,rfl,hbr,hx,hy,hq0⟩:=hrel
     have hq:=Lib.hid hq0
     clear hq0 hbr1 hx1 hy1
     have hcx:=(hx.cell k).trans HC.out
     have hcy:=(hy.cell k).trans HD.out
     by_cases hjl:j<t[k].length
     ·have hjl' : j<u[k].length:=by have:=hl'.out;omega
      have k1:(j:Int)<(u[k].length:Int):=by omega
      obtain⟨b,off,rfl,c0,c1,c2⟩:=yO (hrd.below hbr) j hjl
      obtain⟨b',off',rfl,d0,d1,d2⟩:=yO (hrd'.below hbr) j hjl'
      by_cases he:t[k][j]=u[k][j]
      ·have hE:=Kj t[k][j] u[k][j] true (beq_iff_eq.2 he)
       have he':=Lib.hid he
       clear he
       go_wp2_with fail
       go_quiet (fail)
       go_wp2
       go_roundw
       case rel=>exact⟨j+1,by omega,by go_num,below_drewN hbr _,hx.drewN _,hy.drewN _,JQ hl'.out hjl hq.out he'.out⟩
       case measure=>simp[intOf];omega
      ·have hE:=Kj t[k][j] u[k][j] false (beq_eq_false_iff_ne.2 he)
       have hfin:=Lib.hid (vS k hlt (KA j hjl hjl' he))
       clear he
       go_wp2_with fail
       go_quiet (fail)
       go_wp2
       go_ret
       exact⟨bD hfin.out.symm,below_drewN hbr _⟩
     ·have hall:=Lib.hid (jv hp.out hlt (Jm hl'.out j hjl hq.out))
      go_wp2
      go_roundw
      case rel=>exact⟨k+1,by omega,by go_num,hbr,hx,hy,hall.out⟩
      case measure=>simp[intOf];omega
   ·have hne:((t[k].length:Int) != (u[k].length:Int))=true:=by rw[bne_iff_ne];omega
    have hfin:=Lib.hid (vS k hlt (fun e=>hl (by rw[e])))
    clear hl
    go_wp2_with fail
    go_quiet (fail)
    go_wp2
    go_ret
    exact⟨bD hfin.out.symm,below_drewN hbr _⟩
  ·have hfin:=Lib.hid (ww fun i hi=>hp.out i hi (by omega))
   go_wp2
   go_ret
   exact⟨bD hfin.out.symm,hbr⟩
def mP (l:List En):Array Value:=(l.flatMap iC).toArray
theorem lg (l:List En):(mP l).size=l.length*3:=by
 unfold mP;rw[List.size_toArray,kI]
theorem IG (l:List En) (k:Nat) (hk:k<l.length) (x:En):putAt (mP l) (k*3) (iC x)=mP (l.set k x):=by
 apply Array.ext_getElem?
 intro i
 have hl:=kI l
 have hl':=kI (l.set k x)
 rw[List.length_set] at hl'
 by_cases hi:i<l.length*3
 ·have hq:i / 3<l.length:=by omega
  have hir:i=i / 3*3+i%3:=by omega
  have h2:=fQ iC 3 di (l.set k x) (i / 3) (by simpa using hq) (i%3) (by omega)
  rw[←hir] at h2
  have h3:=fQ iC 3 di l (i / 3) hq (i%3) (by omega)
  rw[←hir] at h3
  have e2:(mP (l.set k x))[i]?=((l.set k x).flatMap iC)[i]?:=by simp[mP]
  have e3:(mP l)[i]?=(l.flatMap iC)[i]?:=by simp[mP]
  by_cases e:i / 3=k
  ·have hik:i=k*3+i%3:=by omega
   have hlt:i%3<(iC x).length:=by rw[di];omega
   have h1:=putAt_in (iC x) (mP l) (k*3) (i%3) (iC x)[i%3] (by rw[di,lg];omega) (List.getElem?_eq_getElem hlt)
   rw[←hik] at h1
   rw[h1,e2,h2]
   simp only[e,List.getElem_set_self]
   exact (List.getElem?_eq_getElem hlt).symm
  ·rw[putAt_out _ _ _ _ (by rw[di];omega),e2,h2,e3,h3]
   congr 2
   rw[List.getElem_set_ne (fun h=>e h.symm)]
 ·rw[Array.getElem?_eq_none (by rw[size_putAt,lg];omega),Array.getElem?_eq_none (by rw[lg,List.length_set];omega)]
theorem arr64_size:(Try.prog.info? 95).map (·.size)=some 192:=by kernel_rfl
theorem Ha {w:World} {b:Nat} {cur:Array Value} {E:En} {T:TypeId} (h:aC w b (putAt cur 0 (iC E)) T) (hc:cur.size=3):aC w b (fK E) T:=by
 have:putAt cur 0 (fK E).toList=fK E:=iA cur (fK E) (by rw[hc];rfl)
 have h2:aC w b (putAt cur 0 (fK E).toList) T:=h
 rwa [this] at h2
theorem qR (t:Tb) (cs:Array Value) (w:World) (h:yj w cs t) (h0:bB t=0):Calls Try.prog 45 #[.agg cs] w fun r w'=>r = .returned (.agg (mP (bu t)))∧Below w.heap.size w w':=by
 have H0:=Lib.hid h0
 clear h0
 go_enter Try.func45,Try.ntmps45
 go_upto_region 2 with (fail)
 refine JD (fun W=>Code.wp _ _ _ _ W) fun W0 hb0 hx0 hres0 ho0 hs0 => ?_
 clear hs0
 replace ho0:aC W0 (w.heap.size+2) (mP (List.replicate 64 zEn)) 95:=ho0
 replace hres0:aC W0 (w.heap.size+1) (mP (List.replicate 64 zEn)) 95:=hres0
 go_wp2_with (refine fM rfl 63 (.tmp 1) rfl w.heap.size 0 rfl cs.toList hx0.rd _ Try.underlying63 tab_agg (by rw[Array.length_toList,h.sz];exact tab_size) ?_)
 have hF0:Hid (zW t (8*0) (List.replicate 64 zEn)):=Lib.hid zW.start
 clear hx0
 have hF0':=hF0
 rw[Nat.mul_zero] at hF0
 go_loopw [9] (fun i wr => ∃(k:Nat) (l:List En),k≤8∧i = .int .i64 k∧Below w.heap.size w wr∧aC wr (w.heap.size+2) (mP l) 95∧aC wr (w.heap.size+1) (mP (List.replicate 64 zEn)) 95∧Hid (zW t (8*k) l)) (fun i _=>8-(intOf i).toNat)
 case atStart=>exact⟨0,_,Nat.zero_le _,rfl,hb0,ho0,hres0,hF0'⟩
 case round=>
  obtain⟨k,l,hk,rfl,hbr,ho,hres,hF⟩:=hrel
  clear hb0 ho0 hres0 hF0 hF0'
  by_cases hlt:k<8
  ·obtain⟨a,c,hcs,hle,hmx,hnil,hrd⟩:=h.at' k hlt
   have hix:=fun W=>sU hlt hcs W
   have hd8:decide ((k:Int)<8)=true:=by simp;omega
   have hl8:=Lib.hid (lF (jq H0.out k hlt))
   have hl9:t[k].length≤8:=by have:=hl8.out;omega
   unfold maxLen at hmx
   clear hcs
   go_wp2
   clear hix
   go_loopw [15] (fun i wr' => ∃(j:Nat) (l' : List En),j≤t[k].length∧i = .int .i64 j∧Below w.heap.size w wr'∧aC wr' (w.heap.size+2) (mP l') 95∧aC wr' (w.heap.size+1) (mP (List.replicate 64 zEn)) 95∧Hid (zW t (8*k+j) l')) (fun i _=>t[k].length-(intOf i).toNat)
   case atStart=>exact⟨0,l,Nat.zero_le _,rfl,hbr,ho,hres,hF⟩
   case round=>
    obtain⟨j,l',hj,rfl,hbq,ho2,hres2,hF2⟩:=hrel
    clear hbr ho hres
    by_cases hjl:j<t[k].length
    ·obtain⟨b,off,E,rfl,hE,c0,c1,c2⟩:=Gs (hrd.below hbq) j hjl
     have hgE:=Lib.hid (vQ hlt (by omega) (by have:=hl8.out;omega) hE)
     have hm1:(8:Int)*(k:Int)+(j:Int)<64:=by omega
     have hF3:=Lib.hid (hF2.out.step (by omega) hgE.out)
     have hfit:Hid ((8*k+j)*3+3≤(mP l').size):=Lib.hid (by rw[lg,hF2.out.len];omega)
     have hset:Hid (putAt (mP l') ((8*k+j)*3) (iC E)=mP (l'.set (8*k+j) E)):=Lib.hid (IG l' _ (by rw[hF2.out.len];omega) E)
     clear hE hgE hF2
     go_wp2_with (refine aA rfl _ (.tmp 7) (.tmp 19) rfl wr.heap.size 0 _ (iC E) rfl rfl rfl _ _ (aC.new _ _ _) (Nat.le_refl 3) entry_size (Bl E) ?_)
     intro w4 hx4 hgr4
     have hx4':=Ha hx4 rfl
     have hlt0:=ho2.lt
     have ho4:aC w4 (w.heap.size+2) _ _:=(ho2.alloc _).grown hgr4 (fun e=>by have:=Option.some.inj e;omega)
     have hres4:aC w4 (w.heap.size+1) _ _:=(hres2.alloc _).grown hgr4 (fun e=>by have:=Option.some.inj e;omega)
     have hbel4:Below w.heap.size w w4:=(hbq.alloc hbq.size _).grown hgr4 (cz hbq.size _) (fun k hk=>by cases hk;exact hbq.size)
     clear hx4 ho2 hres2 hbq hgr4
     go_wp2_with (first | (refine fM rfl 67 (.tmp 7) rfl wr.heap.size 0 rfl (iC E) hx4'.rd _ Try.underlying67 rfl entry_size ?_) | (refine aA rfl _ (.tmp 25) (.tmp 24) rfl (w.heap.size+2) ((8*k+j)*3) _ (iC E) rfl rfl rfl _ _ ho4 hfit.out entry_size (Bl E) ?_))
     intro w5 ho5 hgr5
     rw[hset.out] at ho5
     have hres5:aC w5 (w.heap.size+1) _ _:=hres4.grown hgr5 (fun e=>by have:=Option.some.inj e;omega)
     have hbel5:Below w.heap.size w w5:=hbel4.grown hgr5 hbel4.size (fun k hk=>by cases hk;omega)
     clear ho4 hres4 hbel4 hgr5 hset hfit hx4' c0 c1 c2
     go_wp2
     go_roundw
     case rel=>exact⟨j+1,_,by omega,by go_num,hbel5,ho5,hres5,hF3⟩
     case measure=>simp[intOf];omega
    ·have hF3:Hid (zW t (8*(k+1)) l'):=by
      rcases hl8.out with e|e
      ·have e0:j=0:=by omega
       subst e0
       exact Lib.hid (zW.skip hF2.out hlt e)
      ·have e8:j=8:=by omega
       subst e8
       exact hF2
     go_wp2
     go_roundw
     case rel=>exact⟨k+1,l',by omega,by go_num,hbq,ho2,hres2,hF3⟩
     case measure=>simp[intOf];omega
  ·obtain rfl:k=8:=by omega
   obtain rfl:l=bu t:=hF.out.fin
   have hlen:(bu t).length=64:=by simp[bu]
   have hs192:Hid ((mP (bu t)).size=192):=Lib.hid (by rw[lg,hlen])
   have hone:(mP (bu t)).all (·.oneCell')=true:=by
    rw[←Array.all_toList,List.all_eq_true]
    intro u hu
    exact su (bu t) u (by simpa[mP] using hu)
   clear hF hlen
   go_wp2_with (first | (refine fM rfl 95 (.tmp 3) rfl (w.heap.size+2) 0 rfl (mP (bu t)).toList ho.rd _ Try.underlying95 rfl (by rw[Array.length_toList,hs192.out];exact arr64_size) ?_) | (refine aB rfl _ (.tmp 2) (.tmp 28) rfl (w.heap.size+1) (mP (bu t)) rfl rfl _ _ hres (by rw[hs192.out];rfl) (by rw[hs192.out];exact arr64_size) hone ?_))
   intro w5 hr5 hgr5
   have hbel5:Below w.heap.size w w5:=hbr.grown hgr5 hbr.size (fun k hk=>by cases hk;omega)
   go_wp2
   refine bodyPost_ret (v:=.agg (mP (bu t))) (bU Try.results45 _ _ (w.heap.size+1) _ _ _ rfl hr5 Try.underlying95 rfl (by rw[hs192.out];exact arr64_size)) rfl ?_
   exact⟨rfl,hbel5⟩
theorem nO.app {w w' : World} {B:Nat} {cs:Array Value} {t:Tb} (h:nO w B cs t) {q:Nat} (hq:q<8) {v v' : Value} {l:List En} (hv:cs[q]?=some v) (ho:Own w' B 67 3 v' l.length (l.flatMap iC)) (hgr:w.grownBy w' v.ownBlock)
  (hc:v'.ownBlock=v.ownBlock∨∀g,v'.ownBlock=some g→w.heap.size≤g):nO w' B (cs.setIfInBounds q v') (t.set q l) where
 sz:=by simp[h.sz]
 own:=fun k hk=>by
  by_cases e:k=q
  ·subst e
   exact⟨v',by rw[Array.getElem?_setIfInBounds_self_of_lt (by rw[h.sz];exact hk)],by simpa using ho⟩
  ·obtain⟨u,h1,h2⟩:=h.own k hk
   refine⟨u,by rw[Array.getElem?_setIfInBounds_ne (fun e2=>e e2.symm)];exact h1,?_⟩
   rw[Vector.getElem_set_ne hq hk (fun e2=>e e2.symm)]
   refine h2.grown hgr fun g hg he => ?_
   rcases Nat.lt_or_gt_of_ne e with hlt|hlt
   ·exact h.apart k q u v hlt h1 hv g hg he
   ·exact h.apart q k v u hlt hv h1 g he hg
 apart:=fun j k x y hjk hx hy g hgx hgy=>by
  have key:∀j u,j≠q→cs[j]?=some u→v'.ownBlock=some g→u.ownBlock=some g→False:=by
   intro j u hjq hu hg hgu
   have hj8:j<8:=by
    rcases Nat.lt_or_ge j 8 with hk|hk
    ·exact hk
    ·rw[Array.getElem?_eq_none (by rw[h.sz];exact hk)] at hu;cases hu
   obtain⟨u',h1,h2⟩:=h.own j hj8
   rw[hu] at h1
   cases h1
   rcases hc with hc|hc
   ·rw[hc] at hg
    rcases Nat.lt_or_gt_of_ne hjq with hlt|hlt
    ·exact h.apart j q u v hlt hu hv g hgu hg
    ·exact h.apart q j v u hlt hv hu g hg hgu
   ·have h3:=hc g hg
    have h4:=Fh h2 g hgu
    omega
  by_cases e:j=q
  ·subst e
   rw[Array.getElem?_setIfInBounds_self_of_lt (by rw[h.sz];exact hq)] at hx
   cases hx
   rw[Array.getElem?_setIfInBounds_ne (by omega)] at hy
   exact key k y (by omega) hy hgx hgy
  ·rw[Array.getElem?_setIfInBounds_ne (fun e2=>e e2.symm)] at hx
   by_cases e2:k=q
   ·subst e2
    rw[Array.getElem?_setIfInBounds_self_of_lt (by rw[h.sz];exact hq)] at hy
    cases hy
    exact key j x e hx hgy hgx
   ·rw[Array.getElem?_setIfInBounds_ne (fun e3=>e2 e3.symm)] at hy
    exact h.apart j k x y hjk hx hy g hgx hgy
theorem EX {w:World} {b:Nat} {l:List En} {T:TypeId} (h:aC w b (mP l) T) {k:Nat} {E:En} (hE:l[k]?=some E):bW w (some ⟨b,k*3,none⟩) (iC E):=by
 intro i u hi
 refine⟨b,k*3,rfl,?_⟩
 rw[h.cell]
 have hk:k<l.length:=(List.getElem?_eq_some_iff.1 hE).1
 have hl:l[k]=E:=(List.getElem?_eq_some_iff.1 hE).2
 have:=flat_get iC 3 di l k hk i u (by rw[hl];exact hi)
 simpa[mP] using this
theorem AC (l:List En) (w:World) (hl:l.length=64):Calls Try.prog 34 #[.agg (mP l)] w fun r w' => ∃cs,r = .returned (.agg cs)∧nO w' w.heap.size cs (dC l)∧Below w.heap.size w w':=by
 have HLEN:=Lib.hid hl
 clear hl
 go_enter Try.func34,Try.ntmps34
 go_upto_region 2 with (fail)
 refine JD (fun W=>Code.wp _ _ _ _ W) fun W0 hb0 hx0 hres0 ho0 hs0 => ?_
 clear hs0
 have hO0:nO W0 w.heap.size #[.slice none 0 0,.slice none 0 0,.slice none 0 0,.slice none 0 0,.slice none 0 0,.slice none 0 0,.slice none 0 0,.slice none 0 0] zTb:=zR _ _
 have hT0:Hid (wS l 0 [] zTb):=Lib.hid wS.start
 go_wp2
 go_loopw [8] (fun i wr => ∃(k:Nat) (ca:Array Value) (t:Tb),k≤8∧i = .int .i64 k∧Below w.heap.size w wr∧aC wr w.heap.size (mP l) 95∧aC wr (w.heap.size+1) #[.slice none 0 0,.slice none 0 0,.slice none 0 0,.slice none 0 0,.slice none 0 0,.slice none 0 0,.slice none 0 0,.slice none 0 0] 63∧aC wr (w.heap.size+2) ca 63∧nO wr w.heap.size ca t∧Hid (wS l k [] t)) (fun i _=>8-(intOf i).toNat)
 case atStart=>exact⟨0,_,_,Nat.zero_le _,rfl,hb0,hx0,hres0,ho0,hO0,hT0⟩
 case round=>
  obtain⟨k,ca,t,hk,rfl,hbr,hx,hres,ho,hO,hT⟩:=hrel
  clear hb0 hx0 hres0 ho0 hO0 hT0
  by_cases hlt:k<8
  ·have hd8:decide ((k:Int)<8)=true:=by simp;omega
   go_wp2
   go_loopw [6,5] (fun i s wr' => ∃(j:Nat),j≤8∧i = .int .i64 j∧s = .bool (oo l k j)∧wr' = wr) (fun i _ _=>8-(intOf i).toNat)
   case atStart=>exact⟨0,Nat.zero_le _,rfl,rfl,rfl⟩
   case round=>
    obtain⟨j,hj,rfl,rfl,rfl⟩:=hrel
    by_cases hjl:j<8
    ·have hd9:decide ((j:Int)<8)=true:=by simp;omega
     obtain⟨E,hE,hP⟩:=zP HLEN.out hlt hjl
     have hcE:=(EX hx hE) 0 (.int .i64 E.k) rfl
     obtain⟨_,_,e1,hc0⟩:=hcE
     simp only[Option.some.injEq,Addr.mk.injEq,and_true] at e1
     obtain⟨rfl,rfl⟩:=e1
     rw[Nat.add_zero] at hc0
     have hm1:(8:Int)*(k:Int)+(j:Int)<64:=by omega
     have hst:Hid (oo l k (j+1)=(oo l k j||decide (0<E.k))):=Lib.hid (by unfold oo;rw[hP,List.any_append];simp[xZ])
     clear hE hP
     cases hs:oo l k j
     all_goals
      rw[hs] at hst
      go_wp2
      go_roundw
      case rel=>exact⟨j+1,by omega,by go_num,by rw[hst.out];first | rfl | (congr 1;rw[Bool.eq_iff_iff];simp),trivial⟩
      case measure=>simp[intOf];omega
    ·obtain rfl:j=8:=by omega
     rw[show ((8:Nat):Int)=8 from rfl]
     cases hsome:oo l k 8
     ·have hhalf:=Lib.hid (Ig hsome)
      clear hsome
      go_wp2
      go_loopw [7] (fun i wr'=>i = .int .i64 0∧wr' = wr) (fun _ _=>0)
      case atStart=>exact⟨rfl,rfl⟩
      case round=>
       obtain⟨rfl,rfl⟩:=hrel
       have hTn:Hid (wS l (k+1) [] t):=Lib.hid (wS.next (by rw[hhalf.out];exact hT.out) hlt)
       go_wp2
       go_roundw
       case rel=>exact⟨k+1,ca,t,by omega,by go_num,hbr,hx,hres,ho,hO,hTn⟩
       case measure=>simp[intOf];omega
     ·have hhalf:=Lib.hid (Ew hsome)
      clear hsome
      have hT0:Hid (wS l k ((l.drop (8*k)).take 0) t):=hT
      go_wp2
      go_loopw [7] (fun i wr' => ∃(j:Nat) (ca' : Array Value) (t' : Tb),j≤8∧i = .int .i64 j∧Below w.heap.size w wr'∧aC wr' w.heap.size (mP l) 95∧aC wr' (w.heap.size+1) #[.slice none 0 0,.slice none 0 0,.slice none 0 0,.slice none 0 0,.slice none 0 0,.slice none 0 0,.slice none 0 0,.slice none 0 0] 63∧aC wr' (w.heap.size+2) ca' 63∧nO wr' w.heap.size ca' t'∧Hid (wS l k ((l.drop (8*k)).take j) t')) (fun i _=>8-(intOf i).toNat)
      case atStart=>exact⟨0,ca,t,Nat.zero_le _,rfl,hbr,hx,hres,ho,hO,hT0⟩
      case round=>
       obtain⟨j,ca',t',hj,rfl,hbr2,hx2,hres2,ho2,hO2,hT2⟩:=hrel
       clear hbr hx hres ho hO hT hT0
       by_cases hjl:j<8
       ·have hd9:decide ((j:Int)<8)=true:=by simp;omega
        obtain⟨E,hE,hP⟩:=zP HLEN.out hlt hjl
        have hrE:=EX hx2 hE
        have hm1:(8:Int)*(k:Int)+(j:Int)<64:=by omega
        have hm0:¬(8:Int)*(k:Int)+(j:Int)<0:=by omega
        have hk8:(k:Int)<8:=by omega
        have hmul:IntKind.i64.wrap (8*(k:Int))=8*(k:Int):=IntWalk.i64_in _ (by omega)
        have hadd:IntKind.i64.wrap (8*(k:Int)+(j:Int))=8*(k:Int)+(j:Int):=IntWalk.i64_in _ (by omega)
        have hnn:(8*(k:Int)+(j:Int)).toNat=8*k+j:=by omega
        have hP':=Lib.hid hP
        obtain⟨v,hv,hown⟩:=hO2.own k hlt
        have hv':=Lib.hid hv
        have hpl:t'[k].length=j:=by rw[hT2.out.at' hlt];exact uN HLEN.out hlt (by omega)
        obtain⟨xa,xc,rfl,hxle,hxmx,hxnil,hxrd⟩:=hown.rd
        have HE:=Lib.hid hE
        clear hE hP hv
        go_upto_region 13 with (fail)
        refine zT 11 12 [(0,.int .i64 k)] [anyR,ni (.int .i64 k),ni (.pointer (some ⟨w.heap.size+2,k,none⟩)),ni (.slice xa t'[k].length xc),ni (.int .i64 k),ni (.int .i64 (8*(k:Int))),ni (.int .i64 j),ni (.int .i64 (8*(k:Int)+(j:Int))),ni (.pointer (some ⟨w.heap.size,(8*k+j)*3,none⟩)),ni (.agg (fK E)),(KW 1 (iC E))] (by kernel_rfl) (by kernel_rfl) (by kernel_rfl) (by kernel_rfl) (by kernel_rfl) (by kernel_rfl) (by decide) (by decide) _ rfl (by kernel_rfl) (all_cons ?_ (all_cons ?_ (all_cons ?_ (all_cons ?_ (all_cons ?_ (all_cons ?_ (all_cons ?_ (all_cons ?_ (all_cons ?_ (all_cons ?_ (all_cons ?_ (all_nil)))))))))))) (all_nil) rfl ?_
        ·refine Dr rfl ?_
         intro ρ y W hw hn hV
         have E4:ρ (.tmp 4) = .int .i64 k:=(hn (.tmp 4) rfl).trans rfl
         exact⟨(ah rfl),(run_move (.inl rfl) E4)⟩
        ·refine aV rfl ?_
         intro ρ y W hw hn hb hd
         have E4:ρ (.tmp 4) = .int .i64 k:=(hn (.tmp 4) rfl).trans rfl
         refine aj (.int .i64 k) (ah rfl) (run_move (.inl rfl) E4) rfl
        ·refine aV rfl ?_
         intro ρ y W hw hn hb hd
         have E3:ρ (.tmp 3) = .pointer (some ⟨w.heap.size+2,0,none⟩):=(hn (.tmp 3) rfl).trans rfl
         have E34:=hw 34 1 rfl
         have h1:y 1 = .int .i64 k:=hd 1 rfl
         refine aj (.pointer (some ⟨w.heap.size+2,k,none⟩)) (ah rfl) (by simp[execOp,go_sem,E3,E34,h1,Try.underlying63,hk8]) rfl
        ·refine aV rfl ?_
         intro ρ y W hw hn hb hd
         have E35:=hw 35 2 rfl
         have h2:y 2 = .pointer (some ⟨w.heap.size+2,k,none⟩):=hd 2 rfl
         refine aj (.slice xa t'[k].length xc) (ah rfl) (by simp[execOp,go_sem,E35,h2,(((ho2.ext hb).cell k).trans hv'.out),Try.underlying61]) rfl
        ·refine aV rfl ?_
         intro ρ y W hw hn hb hd
         have E4:ρ (.tmp 4) = .int .i64 k:=(hn (.tmp 4) rfl).trans rfl
         refine aj (.int .i64 k) (ah rfl) (run_move (.inl rfl) E4) rfl
        ·refine aV rfl ?_
         intro ρ y W hw hn hb hd
         have E37:=hw 37 4 rfl
         have h4:y 4 = .int .i64 k:=hd 4 rfl
         have EC:∀v,ρ (.const v)=v:=fun v=>hn (.const v) trivial
         refine aj (.int .i64 (8*(k:Int))) (ah rfl) (by simp[execOp,go_sem,E37,h4,EC,hmul]) rfl
        ·refine aV rfl ?_
         intro ρ y W hw hn hb hd
         have E7:ρ (.tmp 7) = .int .i64 j:=(hn (.tmp 7) rfl).trans rfl
         refine aj (.int .i64 j) (ah rfl) (run_move (.inl rfl) E7) rfl
        ·refine aV rfl ?_
         intro ρ y W hw hn hb hd
         have E38:=hw 38 5 rfl
         have h5:y 5 = .int .i64 (8*(k:Int)):=hd 5 rfl
         have E39:=hw 39 6 rfl
         have h6:y 6 = .int .i64 j:=hd 6 rfl
         refine aj (.int .i64 (8*(k:Int)+(j:Int))) (ah rfl) (by simp[execOp,go_sem,E38,h5,E39,h6,hadd]) rfl
        ·refine aV rfl ?_
         intro ρ y W hw hn hb hd
         have E1:ρ (.tmp 1) = .pointer (some ⟨w.heap.size,0,none⟩):=(hn (.tmp 1) rfl).trans rfl
         have E40:=hw 40 7 rfl
         have h7:y 7 = .int .i64 (8*(k:Int)+(j:Int)):=hd 7 rfl
         refine aj (.pointer (some ⟨w.heap.size,(8*k+j)*3,none⟩)) (ah rfl) (by simp[execOp,go_sem,E1,E40,h7,Try.underlying95,hm1,hm0,hnn]) rfl
        ·refine aV rfl ?_
         intro ρ y W hw hn hb hd
         have E41:=hw 41 8 rfl
         have h8:y 8 = .pointer (some ⟨w.heap.size,(8*k+j)*3,none⟩):=hd 8 rfl
         refine aj (.agg (fK E)) (ah rfl) (bM rfl (E41.trans h8) (vs:=iC E) (hrE.below hb) Try.underlying67 rfl entry_size) rfl
        ·refine aV rfl ?_
         intro ρ y W hw hn hb hd
         have E42:=hw 42 9 rfl
         have h9:y 9 = .agg (fK E):=hd 9 rfl
         refine jb (.slice (some ⟨W.heap.size,0,none⟩) 1 1) (ah rfl) (by simp[execOp,go_sem,E42,h9,fK]) ((Below.refl _ _).alloc (Nat.le_refl _) (.cells (fK E) 67)) ?_
         exact⟨_,_,rfl,Nat.le_refl _,by unfold maxLen;omega,fun e=>(by cases e),bW.new _ _ _⟩
        intro ρ y WA o ho hw hn hV hbWA hRWA
        cases ho
        have hy0:y 0 = .int .i64 k:=hV 0 _ rfl
        have hy1:y 1 = .int .i64 k:=hRWA 1 (by decide)
        have hy2:y 2 = .pointer (some ⟨w.heap.size+2,k,none⟩):=hRWA 2 (by decide)
        have hy3:y 3 = .slice xa t'[k].length xc:=hRWA 3 (by decide)
        have hy4:y 4 = .int .i64 k:=hRWA 4 (by decide)
        have hy5:y 5 = .int .i64 (8*(k:Int)):=hRWA 5 (by decide)
        have hy6:y 6 = .int .i64 j:=hRWA 6 (by decide)
        have hy7:y 7 = .int .i64 (8*(k:Int)+(j:Int)):=hRWA 7 (by decide)
        have hy8:y 8 = .pointer (some ⟨w.heap.size,(8*k+j)*3,none⟩):=hRWA 8 (by decide)
        have hy9:y 9 = .agg (fK E):=hRWA 9 (by decide)
        obtain⟨ya10,yc10,hy10,yle10,ymx10,ynil10,yrd10⟩:=hRWA 10 (by decide)
        have E36:=hw 36 3 rfl
        rw[hy3] at E36
        have E43:=hw 43 10 rfl
        rw[hy10] at E43
        have EC:∀v,ρ (.const v)=v:=fun v=>hn (.const v) trivial
        have EF:∀f,ρ (.func f) = .func (.func f) #[] #[]:=fun f=>hn (.func f) trivial
        refine xH (ah rfl) (fH (.tmp 36) (.tmp 43) 61 rfl w.heap.size 67 _ 3 24 Try.underlying61 entry_info rfl (by decide) _ _ _ E36 (hown.below hbWA) ya10 1 yc10 (iC E) E43 ynil10 yle10 rfl yrd10 (Bl E) (by unfold maxLen;omega) (by omega) (Nat.le_trans hbr2.size hbWA.size)) ?_
        rintro v2 w4 ⟨hown4,hgr4,hcase4⟩
        clear hRWA hw hn hV
        simp only[lay,Nat.reduceAdd,Nat.reduceLT,Nat.reduceEqDiff,reduceIte,decide_true,decide_false,if_true,Bool.false_eq_true,if_false,List.setIfInBounds_toArray,List.set_cons_zero,List.set_cons_succ,List.drop_succ_cons,List.drop_zero,List.drop_nil,hy0,hy1,hy2,hy3,hy4,hy5,hy6,hy7,hy8,hy9,hy10]
        clear hy0 hy1 hy2 hy3 hy4 hy5 hy6 hy7 hy8 hy9 hy10
        have hbelA:=ag hbr2 hbWA
        have hownA:=hown.below hbWA
        have ho4:=iO (ho2.ext hbWA) hownA (by decide) hgr4
        have hx4:=iO (hx2.ext hbWA) hownA (by decide) hgr4
        have hres4:=iO (hres2.ext hbWA) hownA (by decide) hgr4
        have hbel4:=hbelA.grown hgr4 hbelA.size (fun k hk=>hownA.ge k hk)
        have hown5:Own w4 w.heap.size 67 3 v2 (t'[k]++[E]).length ((t'[k]++[E]).flatMap iC):=by
         rw[List.length_append,List.flatMap_append]
         simpa using hown4
        have hO4:=(hO2.below hbWA).app hlt hv'.out hown5 hgr4 hcase4
        have hT3:Hid (wS l k ((l.drop (8*k)).take (j+1)) (t'.set k (t'[k]++[E]))):=Lib.hid (by
         have:=hT2.out.set (h2:=(l.drop (8*k)).take (j+1)) hlt
         have e:t'[k]++[E]=(l.drop (8*k)).take (j+1):=by rw[hP'.out,hT2.out.at' hlt]
         rw[e]
         exact this)
        have hsz2:=hO2.sz
        have hone2:∀u∈[v2],u.oneCell' = true:=by
         obtain⟨_,_,rfl,_⟩:=hown4.rd
         intro u hu
         cases List.mem_singleton.1 hu
         rfl
        have hcv2:(v2.cells.toList:List Value)=[v2]:=by
         obtain⟨_,_,rfl,_⟩:=hown4.rd
         rfl
        clear hbelA hownA hown4 hown5 hcase4 hgr4 hbWA hx2 hres2 ho2 hO2 hT2 hown hrE hbr2 yrd10
        go_wp2_with (refine aA rfl _ (.tmp 45) (.tmp 44) rfl (w.heap.size+2) k _ [v2] rfl rfl hcv2 _ _ ho4 (by rw[hsz2];exact hlt) slent_size hone2 ?_)
        intro w5 ho5 hgr5
        rw[lG] at ho5
        have hO5:=hO4.keep ho4 (by decide) hgr5
        have hx5:=dB hx4 ho4 (by decide) hgr5
        have hres5:aC w5 (w.heap.size+1) _ _:=hres4.grown hgr5 (fun e=>by have:=Option.some.inj e;omega)
        have hbel5:=hbel4.grown hgr5 hbel4.size (fun k hk=>by cases hk;omega)
        clear ho4 hx4 hres4 hbel4 hO4 hgr5
        go_wp2
        go_roundw
        case rel=>exact⟨j+1,_,_,by omega,by go_num,hbel5,hx5,hres5,ho5,hO5,hT3⟩
        case measure=>simp[intOf];omega
       ·obtain rfl:j=8:=by omega
        have hTn:Hid (wS l (k+1) [] t'):=Lib.hid (wS.next (by rw[hhalf.out];exact hT2.out) hlt)
        go_wp2
        go_roundw
        case rel=>exact⟨k+1,ca',t',by omega,by go_num,hbr2,hx2,hres2,ho2,hO2,hTn⟩
        case measure=>simp[intOf];omega
  ·obtain rfl:k=8:=by omega
   have hfin:=hT.out.fin
   have hone:=hO.rd.one
   have hsz:=hO.sz
   rw[hfin] at hO
   clear hfin
   go_wp2_with (first | (refine fM rfl 63 (.tmp 3) rfl (w.heap.size+2) 0 rfl ca.toList ho.rd _ Try.underlying63 tab_agg (by rw[Array.length_toList,hsz];exact tab_size) ?_) | (refine aB rfl _ (.tmp 2) (.tmp 47) rfl (w.heap.size+1) ca rfl rfl _ _ hres (by rw[hsz];rfl) (by rw[hsz];exact tab_size) hone ?_))
   intro w5 hr5 hgr5
   have hO5:=hO.keep hres (by decide) hgr5
   have hbel5:Below w.heap.size w w5:=hbr.grown hgr5 hbr.size (fun k hk=>by cases hk;omega)
   go_wp2
   refine bodyPost_ret (v:=.agg ca) (bU Try.results34 _ _ (w.heap.size+1) _ _ _ rfl hr5 Try.underlying63 rfl (by rw[hsz];exact tab_size)) rfl ?_
   exact⟨_,rfl,hO5,hbel5⟩
open Go.Maps
def IJ (b:Bool):List Value:=[.bool b]
theorem xk (b:Bool):(IJ b).length=1:=rfl
theorem bool_info:(Try.prog.info? 4).map (fun i=>(i.zero,i.size,i.bytes))=some (some (.bool false),1,1):=by kernel_rfl
theorem bool_sz:(Try.prog.info? 4).map (·.size)=some 1:=by kernel_rfl
theorem Jg (b:Bool):∀u∈[Value.bool b],u.oneCell' = true:=by intro u hu;cases List.mem_singleton.1 hu;rfl
theorem JY {w:World} {b off:Nat} {l:List Bool} (h:bW w (some ⟨b,off,none⟩) (l.flatMap IJ)) (i:Nat) (x:Bool) (hx:l[i]?=some x):w.cell? ⟨b,off+i,none⟩=some (.bool x):=by
 have hi:=(List.getElem?_eq_some_iff.1 hx).1
 obtain⟨b',off',e,hc⟩:=h.elem xk (by decide) i hi
 cases e
 have:=hc 0 (.bool x) (by rw[(List.getElem?_eq_some_iff.1 hx).2];rfl)
 simpa using this
theorem yz (ps:List PF) (k:Int) (a:Option Addr) (c:Nat) (w:World) (h:DJ w a c ps) (hk64 : -9223372036854775808≤k∧k≤9223372036854775807) :
  Calls Try.prog 88 #[.agg (GL a ps.length c k)] w fun r w'=>r = .returned (.int .i64 (aO (dP ps k)))∧Below w.heap.size w w':=by
 have hlc:=Nat.le_trans h.le h.mx
 unfold maxLen at hlc
 unfold GL
 go_enter Try.func88,Try.ntmps88
 go_upto_region 1 with (fail)
 refine eO (fun W=>Code.wp _ _ _ _ W) fun W0 hb0 hx0 hs0 => ?_
 clear hs0
 by_cases h4:5<ps.length∨k<0∨80<k
 ·have hfin:Hid (aO (dP ps k)=4):=Lib.hid (by unfold aO dP;rw[if_pos (by simpa using h4)])
  have hcx:=hx0.cell
  have h4' : 5<ps.length∨(¬5<ps.length∧k<0)∨(¬5<ps.length∧¬k<0∧80<k):=by omega
  clear h4
  rcases h4' with g|⟨g,g2⟩|⟨g,g2,g3⟩
  all_goals
   go_wp2
   go_ret
   exact⟨aQ hfin.out.symm,hb0⟩
 ·have hres:Hid (aO (dP ps k)=iH k (((ps.take 0).map PF.fi).flatMap Fi.b) ((ps.drop 0).map PF.fi)):=Lib.hid (by unfold aO dP;rw[if_neg (by simpa using h4)];rfl)
  have g1:¬5<ps.length:=by omega
  have g2:¬k<0:=by omega
  have g3:¬80<k:=by omega
  have hcx:=hx0.cell
  clear h4
  obtain⟨N,hN⟩:∃N:Nat,k=(N:Int):=⟨k.toNat,by omega⟩
  subst hN
  have hN80:N≤80:=by omega
  go_upto_region 4 with (refine nW _ rfl _ _ _ rfl IJ 4 _ 1 1 false xk (by decide) Try.underlying138 bool_info rfl .i64 .i64 N N N rfl rfl rfl rfl (by omega) (by unfold maxLen;omega) ?_)
  clear hcx
  intro W1 hM1 hgr1
  have hb1:Below W0.heap.size W0 W1:=iy hgr1
  have hbel1:=ag hb0 hb1
  have hx1:=hx0.ext hb1
  have hM1' : Own W1 w.heap.size 4 1 (.slice (some ⟨W0.heap.size,0,none⟩) N N) N ((mK N (((ps.take 0).map PF.fi).flatMap Fi.b)).flatMap IJ):=by simp only[List.take_zero,List.map_nil,List.flatMap_nil];rw[Gq];exact hM1.mono hb0.size
  obtain⟨gm,hGM⟩:∃g,g=W0.heap.size:=⟨_,rfl⟩
  rw[←hGM] at hM1' ⊢
  clear hGM hb0 hx0 hb1 hM1 hgr1
  have hcx:=hx1.cell
  go_upto_region 5 with (fail)
  clear hcx
  go_loopw [28] (fun i wr => ∃(q:Nat),q≤ps.length∧i = .int .i64 q∧Below w.heap.size w wr∧aC wr w.heap.size #[.slice a ps.length c,.int .i64 (N:Int)] 36∧Own wr w.heap.size 4 1 (.slice (some ⟨gm,0,none⟩) N N) N ((mK N (((ps.take q).map PF.fi).flatMap Fi.b)).flatMap IJ)∧Hid (aO (dP ps N)=iH N (((ps.take q).map PF.fi).flatMap Fi.b) ((ps.drop q).map PF.fi))) (fun i _=>ps.length-(intOf i).toNat)
  case atStart=>exact⟨0,Nat.zero_le _,rfl,hbel1,hx1,hM1',hres⟩
  case round=>
   clear hbel1 hx1 hM1' hres
   obtain⟨q,hq,rfl,hbr,hx,hM,hres⟩:=hrel
   by_cases hlt:q<ps.length
   ·obtain⟨b,off,p,rfl,hp,c0,c1⟩:=vW (h.below hbr).rd q hlt
    have hgw:=h.good p (List.mem_of_getElem? hp)
    have hgood:=hgw.below hbr
    have hdr:=drop_at hp
    have htk:=take_at hp
    rw[hdr,List.map_cons] at hres
    have htk':=Lib.hid htk
    clear hdr htk
    generalize hseen:((ps.take q).map PF.fi).flatMap Fi.b=seen at hM hres
    have hseen':=Lib.hid hseen
    clear hseen hp
    go_wp2_with (refine aD rfl _ _ _ rfl (jd p) rfl rfl rfl file_size (ji _) ?_)
    intro w2 hb2 hf2
    have hbel2:=ag hbr hb2
    have hx2:=hx.ext hb2
    have hM2:=hM.below hb2
    have hgood2:=hgood.below hb2
    clear hbr hx hM hgood hb2 c0 c1
    have hcf:=hf2.cell
    have f0:(jd p)[0]?=some (.int .i64 p.n):=rfl
    have f1:(jd p)[1]?=some (.slice p.a p.l.length p.c):=rfl
    by_cases hn96:p.n<0∨96<p.n
    ·have hfin:Hid (aO (dP ps N)=3):=Lib.hid (by rw[hres.out,lI,if_pos hn96])
     have hn' : p.n<0∨(¬p.n<0∧96<p.n):=by omega
     clear hn96
     rcases hn' with g|⟨g,g2⟩
     all_goals
      go_wp2
      go_ret
      exact⟨aQ hfin.out.symm,hbel2⟩
    ·have hres2:Hid (aO (dP ps N)=if (p.l.length:Int)≠bV p.n then 2 else if dG N seen p.l≠0 then dG N seen p.l else iH N (seen++p.l) ((ps.drop (q+1)).map PF.fi)):=Lib.hid (by rw[hres.out,lI,if_neg hn96])
     have g4:¬p.n<0:=by omega
     have g5:¬96<p.n:=by omega
     clear hn96 hres
     by_cases hcnt:(p.l.length:Int)=bV p.n
     ·have hres3:Hid (aO (dP ps N)=if dG N seen p.l≠0 then dG N seen p.l else iH N (seen++p.l) ((ps.drop (q+1)).map PF.fi)):=Lib.hid (by rw[hres2.out,if_neg (fun hh=>hh hcnt)])
      have hl12:p.l.length≤12:=by
       have:=qU (n:=p.n) (by omega)
       omega
      have hcc:=Lib.hid hcnt
      clear hres2 hcnt
      go_upto_region 9 with (fail)
      refine aF 7 [_,_,_,_,_,.v (.int .i64 (bV p.n)),_] (Gf wr.heap.size 1 rfl rfl (Gl hf2 (V:=.slice p.a p.l.length p.c) (by simp[f1,Try.underlying28]) rfl rfl rfl rfl (Gn rfl rfl rfl rfl (Gf wr.heap.size 0 rfl rfl (Gl hf2 (V:=.int .i64 p.n) (by simp[f0]) rfl rfl rfl rfl (all_cons ?_ (Gb (.bool false) (by simp[go_sem,hcc.out]) rfl rfl rfl rfl rfl (all_nil))))) (Try.underlying28)))) (fun _=>rfl) rfl ?_
      ·intro ρ y W hw hn hb hd;have E44:=hw 44 4 rfl;have h4:y 4=_:=hd 4 rfl
       have EF:∀f,ρ (.func f) = .func (.func f) #[] #[]:=fun f=>hn (.func f) trivial
       refine aP _ _ (ah rfl) (aN rfl (EF _) Try.func29 (by kernel_rfl) (by kernel_rfl) (by simp only[List.map_toArray,List.map_cons,List.map_nil,E44,h4,EF];rfl)) ?_
       refine (oD p.n W (by omega)).mono ?_
       rintro e w1 ⟨rfl,rfl⟩
       exact⟨_,rfl,Below.refl _ _,rfl⟩
      intro y WA hbWA _
      have hbelA:=ag hbel2 hbWA
      have hxA:=hx2.ext hbWA
      have hMA:=hM2.below hbWA
      have hfA:=hf2.ext hbWA
      have hgA:=hgood2.below hbWA
      clear hbel2 hx2 hM2 hf2 hgood2 hbWA hcf
      have hcf:=hfA.cell
      have hB0:Hid (dG N seen p.l=dG N (seen++p.l.take 0) (p.l.drop 0)):=Lib.hid (by simp)
      have hM0:Own WA w.heap.size 4 1 (.slice (some ⟨gm,0,none⟩) N N) N ((mK N (seen++p.l.take 0)).flatMap IJ):=by simpa using hMA
      have hle:=hgA.le
      have hmx:=hgA.mx
      have hrdp:=hgA.rd
      unfold maxLen at hmx
      clear hMA hgA
      go_upto_region 12 with (fail)
      clear hcf f0 f1 hfA
      go_loopw [50] (fun i wr => ∃(j:Nat),j≤p.l.length∧i = .int .i64 j∧Below w.heap.size w wr∧aC wr w.heap.size #[.slice (some ⟨b,off,none⟩) ps.length c,.int .i64 (N:Int)] 36∧Own wr w.heap.size 4 1 (.slice (some ⟨gm,0,none⟩) N N) N ((mK N (seen++p.l.take j)).flatMap IJ)∧bW wr p.a (p.l.map eU)∧Hid (dG N seen p.l=dG N (seen++p.l.take j) (p.l.drop j))) (fun i _=>p.l.length-(intOf i).toNat)
      case atStart=>exact⟨0,Nat.zero_le _,rfl,hbelA,hxA,hM0,hrdp,hB0⟩
      case round=>
       clear hbelA hxA hM0 hrdp hB0
       obtain⟨j,hj,rfl,hbr,hx,hM,hrp,hB⟩:=hrel
       by_cases hjl:j<p.l.length
       ·obtain⟨x,hX⟩:∃x,p.l[j]?=some x:=⟨p.l[j],List.getElem?_eq_getElem hjl⟩
        obtain⟨b2,off2,hpa,hc⟩:=jk hrp j hjl
        rw[show p.l[j]=x from (List.getElem?_eq_some_iff.1 hX).2] at hc
        have hdr:=drop_at hX
        have htk:=take_at hX
        rw[hdr,lQ] at hB
        rw[hpa]
        generalize hs2:seen++p.l.take j=seen2 at hB hM
        have htk2:Hid (seen++p.l.take (j+1)=seen2++[x]):=Lib.hid (by rw[htk,←List.append_assoc,hs2])
        have hrp':=Lib.hid hrp
        have hpa':=Lib.hid hpa
        have hcx:=hx.cell
        clear hX hdr htk hs2 hrp hpa
        have hjl' : (j:Int)<(p.l.length:Int):=by omega
        by_cases hr3:x < -1∨(N:Int)≤x
        ·have hfin:Hid (aO (dP ps N)=3):=Lib.hid (by rw[hres3.out,hB.out,if_pos hr3];rfl)
         have hr3' : x < -1∨(¬x < -1∧(N:Int)≤x):=by omega
         clear hr3
         rcases hr3' with g6|⟨g6,g7⟩
         all_goals
          go_wp2
          go_ret
          exact⟨aQ hfin.out.symm,hbr⟩
        ·have g6:¬x < -1:=by omega
         have g7:¬(N:Int)≤x:=by omega
         have hB2:Hid (dG N seen p.l=if 0≤x∧x∈seen2 then 7 else dG N (seen2++[x]) (p.l.drop (j+1))):=Lib.hid (by rw[hB.out,if_neg hr3])
         clear hB hr3
         by_cases hx0:x<0
         ·have e1:x = -1:=by omega
          have hB3:Hid (dG N seen p.l=dG N (seen++p.l.take (j+1)) (p.l.drop (j+1))):=Lib.hid (by rw[hB2.out,if_neg (by omega),htk2.out])
          have hM3:Own wr w.heap.size 4 1 (.slice (some ⟨gm,0,none⟩) N N) N ((mK N (seen++p.l.take (j+1))).flatMap IJ):=by rw[htk2.out,FE _ _ _ hx0];exact hM
          have hrp3:bW wr (some ⟨b2,off2,none⟩) (p.l.map eU):=by rw[←hpa'.out];exact hrp'.out
          clear hB2 hM
          go_wp2
          go_roundw
          case rel=>exact⟨j+1,by omega,by go_num,hbr,hx,hM3,hrp3,hB3⟩
          case measure=>simp[intOf];omega
         ·obtain⟨X,hXX⟩:∃X:Nat,x=(X:Int):=⟨x.toNat,by omega⟩
          subst hXX
          have hXN:X<N:=by omega
          have hXN' : (X:Int)<(N:Int):=by omega
          obtain⟨_,_,hve,_,_,_,hMr⟩:=hM.rd
          simp only[Value.slice.injEq] at hve
          obtain⟨rfl,_,rfl⟩:=hve
          have hcb:=JY hMr X (decide ((X:Int)∈seen2)) (xu N seen2 X hXN)
          rw[Nat.zero_add] at hcb
          clear hMr
          by_cases h7:(X:Int)∈seen2
          ·have hfin:Hid (aO (dP ps N)=7):=Lib.hid (by rw[hres3.out,hB2.out,if_pos (show 0≤(X:Int)∧(X:Int)∈seen2 from ⟨by omega,h7⟩)];rfl)
           rw[decide_eq_true h7] at hcb
           clear h7 hB2
           go_wp2
           go_ret
           exact⟨aQ hfin.out.symm,hbr⟩
          ·have hB3:Hid (dG N seen p.l=dG N (seen++p.l.take (j+1)) (p.l.drop (j+1))):=Lib.hid (by rw[hB2.out,if_neg (fun hh=>h7 hh.2),htk2.out])
           rw[decide_eq_false h7] at hcb
           clear h7 hB2
           obtain⟨g3,off3,cap3,cur3,hve,hBg3,hbg3,hfit3,hset3⟩:=zS xk (by decide) (qa N seen2) hM X hXN
           cases hve
           go_wp2_with (refine aA rfl _ _ _ rfl gm X _ [.bool true] rfl rfl rfl cur3 4 hbg3 (by simpa using hfit3) bool_sz (Jg true) ?_)
           intro w6 hb6 hgr6
           have hM6:=hset3 w6 true (by rw[Nat.zero_add,Nat.mul_one];exact hb6)
           rw[Gu _ _ _ hXN,←htk2.out] at hM6
           have hbel6:=hbr.grown hgr6 hbr.size (fun k hk=>by cases hk;exact hBg3)
           have hx6:=dB hx hbg3 (by decide) hgr6
           have hrp6:bW w6 (some ⟨b2,off2,none⟩) (p.l.map eU):=by
            have h9:=hgw.rd.below hbel6
            rw[hpa'.out] at h9
            exact h9
           clear hbr hx hM hgr6 hcx hc hset3 hbg3 hb6 hcb hfit3
           go_wp2
           go_roundw
           case rel=>exact⟨j+1,by omega,by go_num,hbel6,hx6,hM6,hrp6,hB3⟩
           case measure=>simp[intOf];omega
       ·have hfin:Hid (aO (dP ps N)=iH N (((ps.take (q+1)).map PF.fi).flatMap Fi.b) ((ps.drop (q+1)).map PF.fi)):=Lib.hid (by
         have e0:dG N seen p.l=0:=by rw[hB.out,List.drop_eq_nil_of_le (by omega)];rfl
         rw[hres3.out,if_neg (fun hh=>hh e0),htk'.out,List.map_append,List.flatMap_append,hseen'.out]
         simp[PF.fi])
        have hMq:Own wr w.heap.size 4 1 (.slice (some ⟨gm,0,none⟩) N N) N ((mK N (((ps.take (q+1)).map PF.fi).flatMap Fi.b)).flatMap IJ):=by
         rw[List.take_of_length_le (by omega)] at hM
         rw[htk'.out,List.map_append,List.flatMap_append,hseen'.out]
         simpa[PF.fi] using hM
        have hjl' : ¬(j:Int)<(p.l.length:Int):=by omega
        clear hM hB hres3
        go_wp2
        go_roundw
        case rel=>exact⟨q+1,by omega,by go_num,hbr,hx,hMq,hfin⟩
        case measure=>simp[intOf];omega
     ·have hfin:Hid (aO (dP ps N)=2):=Lib.hid (by rw[hres2.out,if_pos hcnt])
      have hcc:((p.l.length:Int) != bV p.n)=true:=by rw[bne_iff_ne];exact hcnt
      clear hres2 hcnt
      go_upto_region 9 with (fail)
      refine aF 7 [_,_,_,_,_,.v (.int .i64 (bV p.n)),_] (Gf wr.heap.size 1 rfl rfl (Gl hf2 (V:=.slice p.a p.l.length p.c) (by simp[f1,Try.underlying28]) rfl rfl rfl rfl (Gn rfl rfl rfl rfl (Gf wr.heap.size 0 rfl rfl (Gl hf2 (V:=.int .i64 p.n) (by simp[f0]) rfl rfl rfl rfl (all_cons ?_ (Gb (.bool true) (by simp[go_sem,hcc]) rfl rfl rfl rfl rfl (all_nil))))) (Try.underlying28)))) (fun _=>rfl) rfl ?_
      ·intro ρ y W hw hn hb hd;have E44:=hw 44 4 rfl;have h4:y 4=_:=hd 4 rfl
       have EF:∀f,ρ (.func f) = .func (.func f) #[] #[]:=fun f=>hn (.func f) trivial
       refine aP _ _ (ah rfl) (aN rfl (EF _) Try.func29 (by kernel_rfl) (by kernel_rfl) (by simp only[List.map_toArray,List.map_cons,List.map_nil,E44,h4,EF];rfl)) ?_
       refine (oD p.n W (by omega)).mono ?_
       rintro e w1 ⟨rfl,rfl⟩
       exact⟨_,rfl,Below.refl _ _,rfl⟩
      intro y WA hbWA _
      go_wp2
      go_ret
      exact⟨aQ hfin.out.symm,ag hbel2 hbWA⟩
   ·have hfin:Hid (aO (dP ps N)=0):=Lib.hid (by rw[hres.out,List.drop_eq_nil_of_le (by omega)];rfl)
    go_wp2
    go_ret
    exact⟨aQ hfin.out.symm,hbr⟩
theorem go_on:∀ {r:List Ar} {q:Ar},aH q=0→srtF q.en r→∀n,onA (kY q r) n=onA (q::r) n
 | [],q,_,_,n=>rfl
 | a::r,q,hq,h,n=>by
  unfold kY
  split
  ·rename_i hj
   rw[go_on (rR hq h.1 hj) (by simpa using h.2.2) n,ER hq h.1 hj]
  ·rw[bq,go_on h.1 h.2.2 n,←bq]
theorem go_ok:∀ {r:List Ar} {q:Ar} {p:Option Ar},aH q=0→srtF q.en r→mr p q=false→okF p (kY q r)
 | [],q,p,hq,_,hb=>⟨hq,hb,trivial⟩
 | a::r,q,p,hq,h,hb=>by
  unfold kY
  split
  ·rename_i hj
   refine go_ok (rR hq h.1 hj) (by simpa using h.2.2) ?_
   cases p with
   | none=>rfl
   | some z=>exact hb
  ·rename_i hj
   exact⟨hq,hb,go_ok h.1 h.2.2 (pM.2 ⟨h.2.1,by simpa using hj⟩)⟩
theorem xm {l:List Ar} {lo:Int} (h:srtF lo l) (n:Int):onA (kQ l) n=onA l n:=by
 match l,h with
 | [],_=>rfl
 | a::r,h=>rw[pI,go_on h.1 h.2.2]
theorem xD {l:List Ar} {lo:Int} (h:srtF lo l):okF none (kQ l):=by
 match l,h with
 | [],_=>trivial
 | a::r,h=>rw[pI];exact go_ok h.1 h.2.2 rfl
def iU (o:Option Pg):Array Value:=#[.bool o.isSome,.bool (oR o),.bool (oW o),.bool (oH o),.int .i64 (oF o),.int .i64 (oP o)]
def jC (o:Option Pg):List Value:=(iU o).toList
theorem iR (o:Option Pg):(jC o).length=6:=rfl
theorem yV (o:Option Pg):∀u∈jC o,u.oneCell' = true:=by
 intro u hu
 simp only[jC,iU,List.mem_cons,List.not_mem_nil,or_false] at hu
 rcases hu with rfl|rfl|rfl|rfl|rfl|rfl<;>rfl
theorem zN (o:Option Pg):(iU o).all (·.oneCell')=true:=by simp[iU,Value.oneCell']
def Cx (l:List (Option Pg)):Array Value:=(l.flatMap jC).toArray
theorem Jf (l:List (Option Pg)):(l.flatMap jC).length=l.length*6:=Pw.flat_len jC 6 iR l
theorem qI (l:List (Option Pg)):(Cx l).size=l.length*6:=by
 unfold Cx;rw[List.size_toArray,Jf]
theorem qi (l:List (Option Pg)):(Cx l).all (·.oneCell')=true:=by
 rw[←Array.all_toList,List.all_eq_true]
 intro u hu
 obtain⟨o,_,h⟩:=List.mem_flatMap.1 (show u∈l.flatMap jC by simpa[Cx] using hu)
 exact yV o u h
theorem Im (l:List (Option Pg)) (k:Nat) (hk:k<l.length) (x:Option Pg):putAt (Cx l) (k*6) (jC x)=Cx (l.set k x):=by
 apply Array.ext_getElem?
 intro i
 by_cases hi:i<l.length*6
 ·have hq:i / 6<l.length:=by omega
  have hir:i=i / 6*6+i%6:=by omega
  have h2:=fQ jC 6 iR (l.set k x) (i / 6) (by simpa using hq) (i%6) (by omega)
  rw[←hir] at h2
  have h3:=fQ jC 6 iR l (i / 6) hq (i%6) (by omega)
  rw[←hir] at h3
  have e2:(Cx (l.set k x))[i]?=((l.set k x).flatMap jC)[i]?:=by simp[Cx]
  have e3:(Cx l)[i]?=(l.flatMap jC)[i]?:=by simp[Cx]
  by_cases e:i / 6=k
  ·have hik:i=k*6+i%6:=by omega
   have hlt:i%6<(jC x).length:=by rw[iR];omega
   have h1:=putAt_in (jC x) (Cx l) (k*6) (i%6) (jC x)[i%6] (by rw[iR,qI];omega) (List.getElem?_eq_getElem hlt)
   rw[←hik] at h1
   rw[h1,e2,h2]
   simp only[e,List.getElem_set_self]
   exact (List.getElem?_eq_getElem hlt).symm
  ·rw[putAt_out _ _ _ _ (by rw[iR];omega),e2,h2,e3,h3]
   congr 2
   rw[List.getElem_set_ne (fun h=>e h.symm)]
 ·rw[Array.getElem?_eq_none (by rw[size_putAt,qI];omega),Array.getElem?_eq_none (by rw[qI,List.length_set];omega)]
def fC (f:Nat→Option Pg):Array Value:=Cx (Cv f)
theorem eX (f:Nat→Option Pg):(fC f).size=384:=by unfold fC;rw[qI,nP]
theorem Fs (f:Nat→Option Pg) (k:Nat) (hk:k<64) (x:Option Pg):putAt (fC f) (k*6) (jC x)=fC (fun i=>if i=k then x else f i):=by
 unfold fC
 rw[Im _ _ (by rw[nP];exact hk),GX]
theorem Fq (cur:Array Value) (o:Nat) (a b c d e x y:Value):putAt (putAt cur o [a,b,c,d,e,x]) (o+5) [y]=putAt cur o [a,b,c,d,e,y]:=by
 simp[putAt]
theorem one_size:(Try.prog.info? 106).map (·.size)=some 6:=by kernel_rfl
theorem ones_size:(Try.prog.info? 107).map (·.size)=some 384:=by kernel_rfl
theorem iQ (l:List Ar) (a:Option Addr) (c:Nat) (w:World) (h:bW w a (l.flatMap gV)) (hl:l.length≤1000) (hok:∀x∈l,aH x=0) :
  Calls Try.prog 44 #[.slice a l.length c] w fun r w'=>r = .returned (.agg (fC (aY l)))∧Below w.heap.size w w':=by
 go_enter Try.func44,Try.ntmps44
 go_upto_region 2 with (fail)
 refine pz (fun W=>Code.wp _ _ _ _ W) fun W0 hb0 hres0 ho0 hs0 => ?_
 clear hs0
 replace ho0:aC W0 (w.heap.size+1) (fC f0) 107:=ho0
 replace hres0:aC W0 w.heap.size (fC f0) 107:=hres0
 go_upto_region 3 with (fail)
 go_loopw [9] (fun i wr => ∃k:Nat,k≤l.length∧i = .int .i64 k∧Below w.heap.size w wr∧aC wr (w.heap.size+1) (fC (aY (l.take k))) 107∧aC wr w.heap.size (fC f0) 107) (fun i _=>l.length-(intOf i).toNat)
 case atStart=>exact⟨0,Nat.zero_le _,rfl,hb0,ho0,hres0⟩
 case round=>
  clear hb0 ho0 hres0
  obtain⟨k,hk,rfl,hbr,hor,hrr⟩:=hrel
  by_cases hlt:k<l.length
  ·have hnx:=Lib.hid (BH hlt)
   have hA:=aS (hok l[k] (List.getElem_mem _))
   obtain⟨⟨f1,f2,f3⟩,f4,f5,f6,_,_⟩:=hA
   generalize hF:aY (l.take k)=F at *
   obtain⟨b,off,rfl,c0,c1,c2,c3,c4,c5,c6⟩:=Aj (h.below hbr) k hlt
   generalize l[k]=A at *
   go_upto_region 5 with (fail)
   refine eO (fun W=>Code.wp _ _ _ _ W) fun W1 hb1 hx1 hs1 => ?_
   clear hs1 c0 c1 c2 c3 c4 c5 c6
   have hbel1:=ag hbr hb1
   have ho1:=hor.ext hb1
   have hr1:=hrr.ext hb1
   have hgx:w.heap.size+1<wr.heap.size:=hor.lt
   clear hbr hor hrr hb1
   obtain⟨gx,hg⟩:∃g,g=wr.heap.size:=⟨_,rfl⟩
   rw[←hg] at hx1 hgx ⊢
   clear hg
   obtain⟨N,hN⟩:∃N:Nat,A.fr=(N:Int):=⟨A.fr.toNat,by omega⟩
   have hN':=Lib.hid hN
   clear hN
   have hcx:=hx1.cell
   go_upto_region 6 with (fail)
   clear hcx
   go_loopw [6] (fun i wr => ∃K:Nat,A.fr≤(K:Int)∧(K:Int)≤A.en∧i = .int .i64 K∧Below w.heap.size w wr∧aC wr gx (iT A) 69∧aC wr (w.heap.size+1) (fC (zC A K F)) 107∧aC wr w.heap.size (fC f0) 107) (fun i _=>(A.en-intOf i).toNat)
   case atStart=>exact⟨N,by have:=hN'.out;omega,by have:=hN'.out;omega,by rw[hN'.out],hbel1,hx1,by rw[←hN'.out,CR];exact ho1,hr1⟩
   case round=>
    clear hbel1 hx1 ho1 hr1
    obtain⟨K,hK0,hK1,rfl,hbr,hx,ho,hr⟩:=hrel
    have hcx:=hx.cell
    unfold iT at hcx
    by_cases hKe:(K:Int)<A.en
    ·have hK64:K<64:=by omega
     have hK64i:(K:Int)<64:=by omega
     have hfit:Hid (K*6+6≤(fC (zC A K F)).size):=Lib.hid (by rw[eX];omega)
     have hwa:IntKind.i64.wrap (A.ba+(K:Int))=A.ba+(K:Int):=IntWalk.i64_in _ (by omega)
     have hwb:IntKind.i64.wrap (A.ba+(K:Int)-A.fr)=A.ba+(K:Int)-A.fr:=IntWalk.i64_in _ (by omega)
     have hfin:Hid (∀q:Int,q=(if 0≤A.fi then A.ba+(K:Int)-A.fr else 0)→putAt (fC (zC A K F)) (K*6) [.bool true,.bool A.rd,.bool A.wr,.bool A.sh,.int .i64 A.fi,.int .i64 q]=fC (zC A ((K:Int)+1) F)):=Lib.hid (fun q hq=>by
      rw[←Ep hK0,←Fs _ K hK64,hq];rfl)
     go_upto_region 9 with (refine dW rfl _ _ _ rfl (w.heap.size+1) (K*6) #[.bool true,.bool A.rd,.bool A.wr,.bool A.sh,.int .i64 A.fi,.int .i64 0] rfl rfl _ _ ho hfit.out one_size (by simp[Value.oneCell']) ?_)
     intro W2 ho2 hgr2
     have hbel2:Below w.heap.size w W2:=hbr.grown hgr2 hbr.size (fun k hk=>by cases hk;omega)
     have hx2:aC W2 gx (iT A) 69:=hx.grown hgr2 (fun e=>by have:=Option.some.inj e;omega)
     have hr2:aC W2 w.heap.size (fC f0) 107:=hr.grown hgr2 (fun e=>by have:=Option.some.inj e;omega)
     clear hbr hx ho hr hgr2 hcx
     have hcx:=hx2.cell
     unfold iT at hcx
     by_cases hfi:0≤A.fi
     ·go_upto_region 7 with (refine aA rfl _ _ _ rfl (w.heap.size+1) (K*6+5) (.int .i64 (A.ba+(K:Int)-A.fr)) [.int .i64 (A.ba+(K:Int)-A.fr)] rfl rfl rfl _ _ ho2 (by rw[size_putAt];exact hfit.out) int_size (by simp[Value.oneCell']) ?_)
      intro W3 ho3 hgr3
      have hbel3:Below w.heap.size w W3:=hbel2.grown hgr3 hbel2.size (fun k hk=>by cases hk;omega)
      have hx3:aC W3 gx (iT A) 69:=hx2.grown hgr3 (fun e=>by have:=Option.some.inj e;omega)
      have hr3:aC W3 w.heap.size (fC f0) 107:=hr2.grown hgr3 (fun e=>by have:=Option.some.inj e;omega)
      have ho4:aC W3 (w.heap.size+1) (fC (zC A ((K:Int)+1) F)) 107:=by
       rw[←hfin.out _ (by rw[if_pos hfi]),←Fq];exact ho3
      clear hbel2 hx2 ho2 hr2 ho3 hgr3 hcx hfin
      go_wp2
      go_roundw
      case rel=>exact⟨K+1,by omega,by omega,by go_num,hbel3,hx3,ho4,hr3⟩
      case measure=>simp[intOf];omega
     ·have ho4:aC W2 (w.heap.size+1) (fC (zC A ((K:Int)+1) F)) 107:=by
       rw[←hfin.out 0 (by rw[if_neg hfi])];exact ho2
      clear ho2 hfin
      go_wp2
      go_roundw
      case rel=>exact⟨K+1,by omega,by omega,by go_num,hbel2,hx2,ho4,hr2⟩
      case measure=>simp[intOf];omega
    ·have hKA:(K:Int)=A.en:=by omega
     have ho4:aC wr (w.heap.size+1) (fC (aY (l.take (k+1)))) 107:=by
      rw[hnx.out,←hKA];exact ho
     clear ho hKA
     go_wp2
     go_roundw
     case rel=>exact⟨k+1,by omega,by go_num,hbr,ho4,hr⟩
     case measure=>simp[intOf];omega
  ·have hkl:k=l.length:=by omega
   subst hkl
   rw[List.take_length] at hor
   have hs384:Hid ((fC (aY l)).size=384):=Lib.hid (eX _)
   have hr384:Hid ((fC f0).size=384):=Lib.hid (eX _)
   have hone:(fC (aY l)).all (·.oneCell')=true:=qi _
   go_wp2_with (first | (refine fM rfl 107 (.tmp 3) rfl (w.heap.size+1) 0 rfl (fC (aY l)).toList hor.rd _ Try.underlying107 rfl (by rw[Array.length_toList,hs384.out];exact ones_size) ?_) | (refine aB rfl _ (.tmp 2) (.tmp 46) rfl w.heap.size (fC (aY l)) rfl rfl _ _ hrr (by rw[hs384.out,hr384.out]) (by rw[hs384.out];exact ones_size) hone ?_))
   intro w5 hr5 hgr5
   have hbel5:Below w.heap.size w w5:=hbr.grown hgr5 hbr.size (fun k hk=>by cases hk;omega)
   go_wp2
   refine bodyPost_ret (v:=.agg (fC (aY l))) (bU Try.results44 _ _ w.heap.size _ _ _ rfl hr5 Try.underlying107 rfl (by rw[hs384.out];exact ones_size)) rfl ?_
   exact⟨rfl,hbel5⟩
theorem wF (a:Ar) (w:World):Calls Try.prog 105 #[.agg (iT a)] w fun r w'=>r = .returned (.int .i64 (aH a))∧Below w.heap.size w w':=by
 unfold iT
 go_enter Try.func105,Try.ntmps105
 go_upto_region 1 with (fail)
 refine eO (fun W=>Code.wp _ _ _ _ W) fun W0 hb0 hx0 hs0 => ?_
 clear hs0
 have hcx:=hx0.cell
 by_cases g1:a.fr<0
 ·have hz:Hid (aH a=3):=Lib.hid (by unfold aH;rw[if_pos (by omega)])
  go_wp2
  go_ret
  exact⟨aQ hz.out.symm,hb0⟩
 ·by_cases g2:64<a.en
  ·have hz:Hid (aH a=3):=Lib.hid (by unfold aH;rw[if_pos (by omega)])
   go_wp2
   go_ret
   exact⟨aQ hz.out.symm,hb0⟩
  ·by_cases g3:a.en≤a.fr
   ·have hz:Hid (aH a=3):=Lib.hid (by unfold aH;rw[if_pos (by omega)])
    go_wp2
    go_ret
    exact⟨aQ hz.out.symm,hb0⟩
   ·by_cases g4:a.fi < -1
    ·have hz:Hid (aH a=3):=Lib.hid (by unfold aH;rw[if_pos (by omega)])
     go_wp2
     go_ret
     exact⟨aQ hz.out.symm,hb0⟩
    ·by_cases g5:4<a.fi
     ·have hz:Hid (aH a=3):=Lib.hid (by unfold aH;rw[if_pos (by omega)])
      go_wp2
      go_ret
      exact⟨aQ hz.out.symm,hb0⟩
     ·by_cases g6:a.ba<0
      ·have hz:Hid (aH a=3):=Lib.hid (by unfold aH;rw[if_pos (by omega)])
       go_wp2
       go_ret
       exact⟨aQ hz.out.symm,hb0⟩
      ·have hn1:¬(a.fr<0∨a.en≤a.fr∨64<a.en∨a.fi < -1∨5≤a.fi∨a.ba<0):=by omega
       have hw1:IntKind.i64.wrap (a.en-a.fr)=a.en-a.fr:=IntWalk.i64_in _ (by omega)
       have hw2:IntKind.i64.wrap (12-(a.en-a.fr))=12-(a.en-a.fr):=IntWalk.i64_in _ (by omega)
       by_cases f1:a.fi = -1
       ·have f1' : (a.fi == -1)=true:=by simpa using f1
        by_cases f2:a.ba=0
        ·have f2' : ¬0<a.ba:=by omega
         cases f3:a.sh
         ·have hz:Hid (aH a=0):=Lib.hid (by unfold aH;rw[if_neg hn1,if_neg (by rw[f3];simp;omega)])
          have f4:¬0≤a.fi:=by omega
          clear hn1 f1 f2
          rw[f3] at hcx
          go_wp2
          go_ret
          exact⟨aQ hz.out.symm,hb0⟩
         ·have hz:Hid (aH a=7):=Lib.hid (by unfold aH;rw[if_neg hn1,if_pos (.inl ⟨by omega,.inr f3⟩)])
          clear hn1 f1 f2
          rw[f3] at hcx
          go_wp2
          go_ret
          exact⟨aQ hz.out.symm,hb0⟩
        ·have hz:Hid (aH a=7):=Lib.hid (by unfold aH;rw[if_neg hn1,if_pos (.inl ⟨by omega,.inl f2⟩)])
         have f2' : 0<a.ba:=by omega
         clear hn1 f1 f2
         go_wp2
         go_ret
         exact⟨aQ hz.out.symm,hb0⟩
       ·have f1' : 0≤a.fi:=by omega
        have f1'' : (a.fi == -1)=false:=by simpa using f1
        by_cases f2:12-(a.en-a.fr)<a.ba
        ·have hz:Hid (aH a=7):=Lib.hid (by unfold aH;rw[if_neg hn1,if_pos (.inr ⟨f1',f2⟩)])
         clear hn1 f1
         go_wp2
         go_ret
         exact⟨aQ hz.out.symm,hb0⟩
        ·have hz:Hid (aH a=0):=Lib.hid (by unfold aH;rw[if_neg hn1,if_neg (by omega)])
         clear hn1 f1
         go_wp2
         go_ret
         exact⟨aQ hz.out.symm,hb0⟩
theorem JR (p q:Pg) (b:Bool) (h:(p==q)=b) (W:World):(Op.equalIn 10000 106 (.agg #[.bool true,.bool p.rd,.bool p.wr,.bool p.sh,.int .i64 p.fi,.int .i64 p.pg]) (.agg #[.bool true,.bool q.rd,.bool q.wr,.bool q.sh,.int .i64 q.fi,.int .i64 q.pg])).run Try.prog W = .ok b W:=by
 rw[←h,Je]
 by_cases h3:p.rd=q.rd
 ·by_cases h4:p.wr=q.wr
  ·by_cases h5:p.sh=q.sh
   ·by_cases h6:(p.fi==q.fi)=true
    ·by_cases h7:p.pg=q.pg<;>simp[go_sem,h3,h4,h5,h6,h7]
    ·simp[go_sem,h3,h4,h5,h6]
   ·simp[go_sem,h3,h4,h5]
  ·simp[go_sem,h3,h4]
 ·simp[go_sem,h3]
theorem JH (q:Pg) (x:Int) (W:World):(Op.equalIn 10000 106 (.agg #[.bool false,.bool false,.bool false,.bool false,.int .i64 0,.int .i64 x]) (.agg #[.bool true,.bool q.rd,.bool q.wr,.bool q.sh,.int .i64 q.fi,.int .i64 q.pg])).run Try.prog W = .ok false W:=by
 simp[go_sem]
theorem BS (f:Nat→Option Pg) (k:Nat) (hk:k<64):(fC f).extract (k*6) (k*6+6)=iU (f k):=by
 apply Array.ext_getElem?
 intro i
 by_cases hi:i<6
 ·rw[Array.getElem?_extract,if_pos (by rw[eX];omega)]
  have:=fQ jC 6 iR (Cv f) k (by rw[nP];exact hk) i hi
  have e:(fC f)[k*6+i]?=((Cv f).flatMap jC)[k*6+i]?:=by simp[fC,Cx]
  have e2:(Cv f)[k]'(by rw[nP];exact hk)=f k:=by simp[Cv]
  rw[e,this,e2]
  simp[jC]
 ·rw[Array.getElem?_eq_none (by simp;omega),Array.getElem?_eq_none (by simp[iU];omega)]
theorem qF (f:Nat→Option Pg) (k j:Nat) (hk:k<64) (u:Value) (h:(jC (f k))[j]?=some u) (hj:j<6):(fC f)[k*6+j]?=some u:=by
 have:=fQ jC 6 iR (Cv f) k (by rw[nP];exact hk) j hj
 have e:(fC f)[k*6+j]?=((Cv f).flatMap jC)[k*6+j]?:=by simp[fC,Cx]
 have e2:(Cv f)[k]'(by rw[nP];exact hk)=f k:=by simp[Cv]
 rw[e,this,e2]
 exact h
theorem nI (f:Nat→Option Pg) (k:Nat) (hk:k<64) (o:Option Pg) (ho:f k=o) (w:World):(Instr.index 107 (.agg (fC f)) (.int .i64 k)).run Try.prog w = .ok (.agg (iU o)) w:=
 nu Try.underlying107 Try.underlying106 rfl one_size _ k _ hk (by rw[←ho];exact BS f k hk) _ w
theorem lW {P:Program} {ops:Array Oper} {rest:List Oper} {o:Oper} {a:Act} {w:World} {Q:Exit→Act→World→Prop} (hg:o.guard=none) (t t' : TypeId) (x y:Operand) (ho:o.op = .binOp .eql t x y t') (vx vy:Value) (hx:a.eval x=vx) (hy:a.eval y=vy) (B:Bool)
  (hr:(do eqGuard .eql t x y vx vy;binOp .eql t vx vy:Sem Value).run P w = .ok (.bool B) w) (h:wpList P ops Q rest (a.put o.dst (.bool B)) w):wpList P ops Q (o::rest) a w:=
 wpList_plain hg fun K hK=>by
  unfold Oper.wp
  rw[jo ho hx hy hr]
  exact hK _ _ h
theorem Gj (p q:Pg) (b:Bool) (h:(p==q)=b) (x y:Operand) (W:World):(do eqGuard .eql 106 x y (.agg #[.bool true,.bool p.rd,.bool p.wr,.bool p.sh,.int .i64 p.fi,.int .i64 p.pg]) (.agg #[.bool true,.bool q.rd,.bool q.wr,.bool q.sh,.int .i64 q.fi,.int .i64 q.pg]);binOp .eql 106 (.agg #[.bool true,.bool p.rd,.bool p.wr,.bool p.sh,.int .i64 p.fi,.int .i64 p.pg]) (.agg #[.bool true,.bool q.rd,.bool q.wr,.bool q.sh,.int .i64 q.fi,.int .i64 q.pg]):Sem Value).run Try.prog W = .ok (.bool b) W:=by
 have hE:=JR p q b h
 simp[go_sem,hE]
theorem Cy (q:Pg) (z:Int) (x y:Operand) (W:World):(do eqGuard .eql 106 x y (.agg #[.bool false,.bool false,.bool false,.bool false,.int .i64 0,.int .i64 z]) (.agg #[.bool true,.bool q.rd,.bool q.wr,.bool q.sh,.int .i64 q.fi,.int .i64 q.pg]);binOp .eql 106 (.agg #[.bool false,.bool false,.bool false,.bool false,.int .i64 0,.int .i64 z]) (.agg #[.bool true,.bool q.rd,.bool q.wr,.bool q.sh,.int .i64 q.fi,.int .i64 q.pg]):Sem Value).run Try.prog W = .ok (.bool false) W:=by
 have hE:=JH q z
 simp[go_sem,hE]
theorem qZ (f:Nat→Option Pg) (w:World) (hf:∀i p,f i=some p→0≤p.pg∧p.pg≤100) :
  Calls Try.prog 118 #[.agg (fC f)] w fun r w' => ∃v,r = .returned v∧Own w' w.heap.size 69 7 v (toA f 64).length ((toA f 64).flatMap gV)∧Below w.heap.size w w':=by
 have hs384:=Lib.hid (eX f)
 go_enter Try.func118,Try.ntmps118
 go_upto_region 1 with (fail)
 refine eO (fun W=>Code.wp _ _ _ _ W) fun W0 hb0 hx0 hs0 => ?_
 clear hs0
 go_upto_region 3 with (refine ax _ _ rfl _ 0 rfl rfl _ hx0.rd _ Try.underlying107 rfl (by rw[Array.length_toList,hs384.out];exact ones_size) ?_)
 go_loopw [9,3] (fun i u wr => ∃k:Nat,k≤64∧i = .int .i64 k∧Below w.heap.size w wr∧aC wr w.heap.size (fC f) 107∧Own wr w.heap.size 69 7 u (toA f k).length ((toA f k).flatMap gV)) (fun i _ _=>64-(intOf i).toNat)
 case atStart=>exact⟨0,Nat.zero_le _,rfl,hb0,hx0,by simpa[toA] using Own.nil _ _ _ _⟩
 case round=>
  clear hb0 hx0
  obtain⟨k,hk,rfl,hbel,hbx,hown⟩:=hrel
  by_cases hlt:k<64
  ·have hlti:(k:Int)<64:=by omega
   have htl:=xy f k
   cases hfk:f k with
   | none=>
    have hix:=nI f k hlt none hfk
    unfold iU oR oW oH oF oP at hix
    have hst:=Lib.hid (Eu hfk)
    go_upto_region 5 with (fail)
    refine eO (fun W=>Code.wp _ _ _ _ W) fun W1 hb1 hx1 hs1 => ?_
    have hcx:=hx1.cell
    have hbel1:=ag hbel hb1
    have hbx1:=hbx.ext hb1
    have hown1:=hown.below hb1
    clear hs1 hb1 hbel hbx hown
    rw[←hst.out] at hown1
    go_wp2
    go_roundw
    case rel=>exact⟨k+1,by omega,by go_num,hbel1,hbx1,hown1⟩
    case measure=>simp[intOf];omega
   | some p=>
    have hix:=nI f k hlt (some p) hfk
    unfold iU oR oW oH oF oP at hix
    go_upto_region 5 with (fail)
    refine eO (fun W=>Code.wp _ _ _ _ W) fun W1 hb1 hx1 hs1 => ?_
    have hbel:=ag hbel hb1
    have hbx:=hbx.ext hb1
    have hown:=hown.below hb1
    clear hs1 hb1
    obtain⟨gx,hgx⟩:∃g,g=wr.heap.size:=⟨_,rfl⟩
    rw[←hgx] at hx1 ⊢
    clear hgx
    generalize hacc:toA f k=acc at *
    obtain⟨au,cu,rfl,_⟩:=hown.rd
    have hcx:=hx1.cell
    have hwk:IntKind.i64.wrap ((k:Int)+1)=(k:Int)+1:=IntWalk.i64_in _ (by omega)
    by_cases hk0:k=0
    ·have hs0:gK f k p=false:=by rw[hk0];rfl
     have hst:Hid (toA f (k+1)=acc++[cK k p]):=Lib.hid (by rw[sK hfk hs0,hacc])
     have hk0i:¬(0:Int)<(k:Int):=by omega
     have hk0n:¬0<k:=by omega
     clear hk0 hs0 hfk hacc
     go_upto_region 14 with (fail)
     go_wp2_with (at_builtin;refine dJ rfl _ _ 60 rfl w.heap.size 69 _ 7 40 Try.underlying60 area_info rfl (by decide) _ acc.length (acc.flatMap gV) rfl (hown.alloc _) (some ⟨W1.heap.size,0,none⟩) 1 1 (gV (cK k p)) rfl (fun h=>(by cases h)) (Nat.le_refl _) rfl (bW.new _ (iT (cK k p)) _) (fun u hu=>jQ [cK k p] u (by simpa using hu)) (by unfold maxLen;omega) (by omega) (cz hbel.size _) ?_)
     intro v W6 hown6 hgr6
     have hbel6:Below w.heap.size w W6:=(hbel.alloc hbel.size _).grown hgr6 (cz hbel.size _) (hown.alloc (.cells (iT (cK k p)) 69)).ge
     have hbx6:aC W6 w.heap.size (fC f) 107:=iO (hbx.alloc (.cells (iT (cK k p)) 69)) (hown.alloc (.cells (iT (cK k p)) 69)) (by decide) hgr6
     have hown7:Own W6 w.heap.size 69 7 v (toA f (k+1)).length ((toA f (k+1)).flatMap gV):=by
      rw[hst.out,List.flatMap_append,List.length_append];simpa using hown6
     clear hown6 hgr6
     go_wp2
     go_roundw
     case rel=>exact⟨k+1,by omega,by go_num,hbel6,hbx6,hown7⟩
     case measure=>simp[intOf];omega
    ·obtain⟨m,hm⟩:∃m,k=m+1:=⟨k-1,by omega⟩
     have hk0i:(0:Int)<(k:Int):=by omega
     have hk0n:0<k:=by omega
     have hwm:IntKind.i64.wrap ((k:Int)-1)=(m:Int):=by rw[IntWalk.i64_in _ (by omega)];omega
     have hm64:m<64:=by omega
     have hm64i:(m:Int)<64:=by omega
     have hm1:∀z,gK f k z=(match f m with | some q=>jE z q==z | none=>false):=fun z=>by subst hm;rfl
     have hcell:∀j u,(jC (f m))[j]?=some u→j<6→W1.cell? ⟨w.heap.size,m*6+j,none⟩=some u:=fun j u h hj=>by rw[hbx.cell];exact qF f m j hm64 u h hj
     have hmm:=Lib.hid hm
     clear hm hk0
     cases hfm:f m with
     | none=>
      have hs0:gK f k p=false:=by rw[hm1,hfm]
      have hst:Hid (toA f (k+1)=acc++[cK k p]):=Lib.hid (by rw[sK hfk hs0,hacc])
      rw[hfm] at hcell
      have d0:=hcell 0 _ rfl (by decide)
      have d1:=hcell 1 _ rfl (by decide)
      have d2:=hcell 2 _ rfl (by decide)
      have d3:=hcell 3 _ rfl (by decide)
      have d4:=hcell 4 _ rfl (by decide)
      have d5:=hcell 5 _ rfl (by decide)
      simp only[Nat.add_zero,Option.isSome,oR,oW,oH,oF,oP] at d0 d1 d2 d3 d4 d5
      clear hm1 hcell hs0 hfk hacc
      have hw1p:IntKind.i64.wrap (0+1)=1:=by rw[IntWalk.i64_in _ (by omega)];try rfl
      go_upto_region 9 with (fail)
      refine eO (fun W=>Code.wp _ _ _ _ W) fun W2 hb2 hy2 hs2 => ?_
      have hbel:=ag hbel hb2
      have hbx2:=hbx.ext hb2
      have hown2:=hown.below hb2
      have hx2:=hx1.ext hb2
      have hgxy:gx<W1.heap.size:=hx1.lt
      have hgy:w.heap.size<W1.heap.size:=hbx.lt
      have hgB:=hbel.size
      clear hs2 hb2 hbx hown hx1 hcx d0 d1 d2 d3 d4 d5
      have hcx:=hx2.cell
      by_cases hfi:0≤p.fi
      ·obtain⟨gy,hgyE⟩:∃g,g=W1.heap.size:=⟨_,rfl⟩
       rw[←hgyE] at hy2 hgxy hgy ⊢
       clear hgyE
       have hcy:=hy2.cell
       go_upto_region 11 with (refine aA rfl _ _ _ rfl gy 5 (.int .i64 (1)) [.int .i64 (1)] rfl rfl rfl _ _ hy2 (by simp) int_size (by simp[Value.oneCell']) ?_)
       intro W3 hy3 hgr3
       have hy4:aC W3 gy #[.bool false,.bool (false),.bool (false),.bool (false),.int .i64 (0),.int .i64 (1)] 106:=hy3
       have hbel:=hbel.grown hgr3 hbel.size (fun k hk=>by cases hk;omega)
       have hbx3:aC W3 w.heap.size (fC f) 107:=hbx2.grown hgr3 (fun e=>by have:=Option.some.inj e;omega)
       have hx3:aC W3 gx #[.bool true,.bool p.rd,.bool p.wr,.bool p.sh,.int .i64 p.fi,.int .i64 p.pg] 106:=hx2.grown hgr3 (fun e=>by have:=Option.some.inj e;omega)
       have hown:=ak hown2 hy2 (by decide) hgr3
       have hbx:=hbx3
       clear hy2 hy3 hbx2 hx2 hown2 hgr3 hcx hcy hbx3 hgB
       have hE:=Cy p 1
       go_upto_region 12 with (first | (refine ax _ _ rfl _ 0 rfl rfl _ hy4.rd _ Try.underlying106 rfl one_size ?_) | (refine ax _ _ rfl _ 0 rfl rfl _ hx3.rd _ Try.underlying106 rfl one_size ?_) | (refine lW rfl _ _ _ _ rfl _ _ rfl rfl _ (hE _ _ _) ?_))
       clear hE hy4
       have hcx:=hx3.cell
       go_upto_region 14 with (fail)
       go_wp2_with (at_builtin;refine dJ rfl _ _ 60 rfl w.heap.size 69 _ 7 40 Try.underlying60 area_info rfl (by decide) _ acc.length (acc.flatMap gV) rfl (hown.alloc _) (some ⟨W3.heap.size,0,none⟩) 1 1 (gV (cK k p)) rfl (fun h=>(by cases h)) (Nat.le_refl _) rfl (bW.new _ (iT (cK k p)) _) (fun u hu=>jQ [cK k p] u (by simpa using hu)) (by unfold maxLen;omega) (by omega) (cz hbel.size _) ?_)
       intro v W6 hown6 hgr6
       have hbel6:Below w.heap.size w W6:=(hbel.alloc hbel.size _).grown hgr6 (cz hbel.size _) (hown.alloc (.cells (iT (cK k p)) 69)).ge
       have hbx6:aC W6 w.heap.size (fC f) 107:=iO (hbx.alloc (.cells (iT (cK k p)) 69)) (hown.alloc (.cells (iT (cK k p)) 69)) (by decide) hgr6
       have hown7:Own W6 w.heap.size 69 7 v (toA f (k+1)).length ((toA f (k+1)).flatMap gV):=by
        rw[hst.out,List.flatMap_append,List.length_append];simpa using hown6
       clear hown6 hgr6
       go_wp2
       go_roundw
       case rel=>exact⟨k+1,by omega,by go_num,hbel6,hbx6,hown7⟩
       case measure=>simp[intOf];omega
      ·have hbx:=hbx2
       have hown:=hown2
       clear hbx2 hown2
       have hfi' : ¬0≤p.fi:=hfi
       have hE:=Cy p 0
       go_upto_region 12 with (first | (refine ax _ _ rfl _ 0 rfl rfl _ hy2.rd _ Try.underlying106 rfl one_size ?_) | (refine ax _ _ rfl _ 0 rfl rfl _ hx2.rd _ Try.underlying106 rfl one_size ?_) | (refine lW rfl _ _ _ _ rfl _ _ rfl rfl _ (hE _ _ _) ?_))
       clear hE hy2
       have hcx:=hx2.cell
       go_upto_region 14 with (fail)
       go_wp2_with (at_builtin;refine dJ rfl _ _ 60 rfl w.heap.size 69 _ 7 40 Try.underlying60 area_info rfl (by decide) _ acc.length (acc.flatMap gV) rfl (hown.alloc _) (some ⟨W2.heap.size,0,none⟩) 1 1 (gV (cK k p)) rfl (fun h=>(by cases h)) (Nat.le_refl _) rfl (bW.new _ (iT (cK k p)) _) (fun u hu=>jQ [cK k p] u (by simpa using hu)) (by unfold maxLen;omega) (by omega) (cz hbel.size _) ?_)
       intro v W6 hown6 hgr6
       have hbel6:Below w.heap.size w W6:=(hbel.alloc hbel.size _).grown hgr6 (cz hbel.size _) (hown.alloc (.cells (iT (cK k p)) 69)).ge
       have hbx6:aC W6 w.heap.size (fC f) 107:=iO (hbx.alloc (.cells (iT (cK k p)) 69)) (hown.alloc (.cells (iT (cK k p)) 69)) (by decide) hgr6
       have hown7:Own W6 w.heap.size 69 7 v (toA f (k+1)).length ((toA f (k+1)).flatMap gV):=by
        rw[hst.out,List.flatMap_append,List.length_append];simpa using hown6
       clear hown6 hgr6
       go_wp2
       go_roundw
       case rel=>exact⟨k+1,by omega,by go_num,hbel6,hbx6,hown7⟩
       case measure=>simp[intOf];omega
     | some q=>
      have hqb:=hf m q hfm
      have hstp0:=hm1 p
      rw[hfm] at hstp0 hcell
      simp only[] at hstp0
      have d0:=hcell 0 _ rfl (by decide)
      have d1:=hcell 1 _ rfl (by decide)
      have d2:=hcell 2 _ rfl (by decide)
      have d3:=hcell 3 _ rfl (by decide)
      have d4:=hcell 4 _ rfl (by decide)
      have d5:=hcell 5 _ rfl (by decide)
      simp only[Nat.add_zero,Option.isSome,oR,oW,oH,oF,oP] at d0 d1 d2 d3 d4 d5
      generalize hBe:(jE p q==p)=B at hstp0
      have hstp:=Lib.hid hstp0
      clear hm1 hcell hstp0
      have hN1:0≤p.fi→((⟨q.rd,q.wr,q.sh,q.fi,q.pg+1⟩:Pg)==p)=B:=fun h=>by rw[←hBe];unfold jE;rw[if_pos h]
      have hN0:¬0≤p.fi→(q==p)=B:=fun h=>by rw[←hBe];unfold jE;rw[if_neg h]
      clear hBe
      have hw1p:IntKind.i64.wrap (q.pg+1)=(q.pg+1):=by rw[IntWalk.i64_in _ (by omega)];try rfl
      go_upto_region 9 with (fail)
      refine eO (fun W=>Code.wp _ _ _ _ W) fun W2 hb2 hy2 hs2 => ?_
      have hbel:=ag hbel hb2
      have hbx2:=hbx.ext hb2
      have hown2:=hown.below hb2
      have hx2:=hx1.ext hb2
      have hgxy:gx<W1.heap.size:=hx1.lt
      have hgy:w.heap.size<W1.heap.size:=hbx.lt
      have hgB:=hbel.size
      clear hs2 hb2 hbx hown hx1 hcx d0 d1 d2 d3 d4 d5
      have hcx:=hx2.cell
      by_cases hfi:0≤p.fi
      ·obtain⟨gy,hgyE⟩:∃g,g=W1.heap.size:=⟨_,rfl⟩
       rw[←hgyE] at hy2 hgxy hgy ⊢
       clear hgyE
       have hcy:=hy2.cell
       go_upto_region 11 with (refine aA rfl _ _ _ rfl gy 5 (.int .i64 ((q.pg+1))) [.int .i64 ((q.pg+1))] rfl rfl rfl _ _ hy2 (by simp) int_size (by simp[Value.oneCell']) ?_)
       intro W3 hy3 hgr3
       have hy4:aC W3 gy #[.bool true,.bool (q.rd),.bool (q.wr),.bool (q.sh),.int .i64 (q.fi),.int .i64 ((q.pg+1))] 106:=hy3
       have hbel:=hbel.grown hgr3 hbel.size (fun k hk=>by cases hk;omega)
       have hbx3:aC W3 w.heap.size (fC f) 107:=hbx2.grown hgr3 (fun e=>by have:=Option.some.inj e;omega)
       have hx3:aC W3 gx #[.bool true,.bool p.rd,.bool p.wr,.bool p.sh,.int .i64 p.fi,.int .i64 p.pg] 106:=hx2.grown hgr3 (fun e=>by have:=Option.some.inj e;omega)
       have hown:=ak hown2 hy2 (by decide) hgr3
       have hbx:=hbx3
       clear hy2 hy3 hbx2 hx2 hown2 hgr3 hcx hcy hbx3 hgB
       have hE:=Gj ⟨q.rd,q.wr,q.sh,q.fi,q.pg+1⟩ p B (hN1 hfi)
       go_upto_region 12 with (first | (refine ax _ _ rfl _ 0 rfl rfl _ hy4.rd _ Try.underlying106 rfl one_size ?_) | (refine ax _ _ rfl _ 0 rfl rfl _ hx3.rd _ Try.underlying106 rfl one_size ?_) | (refine lW rfl _ _ _ _ rfl _ _ rfl rfl _ (hE _ _ _) ?_))
       clear hE hy4
       have hcx:=hx3.cell
       by_cases hB:B=true
       ·subst hB
        have hst:=Lib.hid (Ee hfk hstp.out)
        rw[hacc] at hst
        have hne:0<acc.length:=by
         have:=FM f hfm
         rw[←hmm.out,hacc] at this
         exact this
        obtain⟨n,hn0⟩:∃n,acc.length=n+1:=⟨acc.length-1,by omega⟩
        have hna:n<acc.length:=by omega
        have hse:Hid (mM acc ((k:Int)+1)=acc.set n { acc[n] with en:=(k:Int)+1 }):=Lib.hid (zb hn0 _)
        have hni:(n:Int)<(acc.length:Int):=by omega
        have hwn:IntKind.i64.wrap ((acc.length:Int)-1)=(n:Int):=by rw[IntWalk.i64_in _ (by omega)];omega
        obtain⟨g,off1,cap1,hv1,hBg,hgl,⟨csg,hgb⟩,hcc,hfz,hset⟩:=uC kM (by decide) rfl hown n hna 1 (by decide) (.int .i64 ((k:Int)+1)) { acc[n] with en:=(k:Int)+1 } rfl
        cases hv1
        have hc1:=hcc 1 _ rfl
        have hbxg:w.heap.size≠g:=by
         intro e;subst e
         unfold aC at hbx hgb
         rw[hbx] at hgb
         simp at hgb
        clear hcc hn0 hfk hacc hfm
        go_upto_region 15 with (fail)
        have hbel6:Below w.heap.size w (W3.setCell ⟨g,off1+n*7+1,none⟩ (.int .i64 ((k:Int)+1))):=hbel.setCell hBg _
        have hbx6:aC (W3.setCell ⟨g,off1+n*7+1,none⟩ (.int .i64 ((k:Int)+1))) w.heap.size (fC f) 107:=hbx.setCell_other _ _ (by simpa using hbxg)
        have hown7:Own (W3.setCell ⟨g,off1+n*7+1,none⟩ (.int .i64 ((k:Int)+1))) w.heap.size 69 7 (.slice (some ⟨g,off1,none⟩) acc.length cu) (toA f (k+1)).length ((toA f (k+1)).flatMap gV):=by
         rw[hst.out,hse.out,List.length_set];exact hset
        clear hset hown hbel hbx hfz hc1 hgb hcx
        go_wp2
        go_roundw
        case rel=>exact⟨k+1,by omega,by go_num,hbel6,hbx6,hown7⟩
        case measure=>simp[intOf];omega
       ·have hBf:B=false:=by simpa using hB
        subst hBf
        have hst:Hid (toA f (k+1)=acc++[cK k p]):=Lib.hid (by rw[sK hfk hstp.out,hacc])
        clear hfk hacc hfm hB
        go_upto_region 14 with (fail)
        go_wp2_with (at_builtin;refine dJ rfl _ _ 60 rfl w.heap.size 69 _ 7 40 Try.underlying60 area_info rfl (by decide) _ acc.length (acc.flatMap gV) rfl (hown.alloc _) (some ⟨W3.heap.size,0,none⟩) 1 1 (gV (cK k p)) rfl (fun h=>(by cases h)) (Nat.le_refl _) rfl (bW.new _ (iT (cK k p)) _) (fun u hu=>jQ [cK k p] u (by simpa using hu)) (by unfold maxLen;omega) (by omega) (cz hbel.size _) ?_)
        intro v W6 hown6 hgr6
        have hbel6:Below w.heap.size w W6:=(hbel.alloc hbel.size _).grown hgr6 (cz hbel.size _) (hown.alloc (.cells (iT (cK k p)) 69)).ge
        have hbx6:aC W6 w.heap.size (fC f) 107:=iO (hbx.alloc (.cells (iT (cK k p)) 69)) (hown.alloc (.cells (iT (cK k p)) 69)) (by decide) hgr6
        have hown7:Own W6 w.heap.size 69 7 v (toA f (k+1)).length ((toA f (k+1)).flatMap gV):=by
         rw[hst.out,List.flatMap_append,List.length_append];simpa using hown6
        clear hown6 hgr6
        go_wp2
        go_roundw
        case rel=>exact⟨k+1,by omega,by go_num,hbel6,hbx6,hown7⟩
        case measure=>simp[intOf];omega
      ·have hbx:=hbx2
       have hown:=hown2
       clear hbx2 hown2
       have hfi' : ¬0≤p.fi:=hfi
       have hE:=Gj q p B (hN0 hfi')
       go_upto_region 12 with (first | (refine ax _ _ rfl _ 0 rfl rfl _ hy2.rd _ Try.underlying106 rfl one_size ?_) | (refine ax _ _ rfl _ 0 rfl rfl _ hx2.rd _ Try.underlying106 rfl one_size ?_) | (refine lW rfl _ _ _ _ rfl _ _ rfl rfl _ (hE _ _ _) ?_))
       clear hE hy2
       have hcx:=hx2.cell
       by_cases hB:B=true
       ·subst hB
        have hst:=Lib.hid (Ee hfk hstp.out)
        rw[hacc] at hst
        have hne:0<acc.length:=by
         have:=FM f hfm
         rw[←hmm.out,hacc] at this
         exact this
        obtain⟨n,hn0⟩:∃n,acc.length=n+1:=⟨acc.length-1,by omega⟩
        have hna:n<acc.length:=by omega
        have hse:Hid (mM acc ((k:Int)+1)=acc.set n { acc[n] with en:=(k:Int)+1 }):=Lib.hid (zb hn0 _)
        have hni:(n:Int)<(acc.length:Int):=by omega
        have hwn:IntKind.i64.wrap ((acc.length:Int)-1)=(n:Int):=by rw[IntWalk.i64_in _ (by omega)];omega
        obtain⟨g,off1,cap1,hv1,hBg,hgl,⟨csg,hgb⟩,hcc,hfz,hset⟩:=uC kM (by decide) rfl hown n hna 1 (by decide) (.int .i64 ((k:Int)+1)) { acc[n] with en:=(k:Int)+1 } rfl
        cases hv1
        have hc1:=hcc 1 _ rfl
        have hbxg:w.heap.size≠g:=by
         intro e;subst e
         unfold aC at hbx hgb
         rw[hbx] at hgb
         simp at hgb
        clear hcc hn0 hfk hacc hfm
        go_upto_region 15 with (fail)
        have hbel6:Below w.heap.size w (W2.setCell ⟨g,off1+n*7+1,none⟩ (.int .i64 ((k:Int)+1))):=hbel.setCell hBg _
        have hbx6:aC (W2.setCell ⟨g,off1+n*7+1,none⟩ (.int .i64 ((k:Int)+1))) w.heap.size (fC f) 107:=hbx.setCell_other _ _ (by simpa using hbxg)
        have hown7:Own (W2.setCell ⟨g,off1+n*7+1,none⟩ (.int .i64 ((k:Int)+1))) w.heap.size 69 7 (.slice (some ⟨g,off1,none⟩) acc.length cu) (toA f (k+1)).length ((toA f (k+1)).flatMap gV):=by
         rw[hst.out,hse.out,List.length_set];exact hset
        clear hset hown hbel hbx hfz hc1 hgb hcx
        go_wp2
        go_roundw
        case rel=>exact⟨k+1,by omega,by go_num,hbel6,hbx6,hown7⟩
        case measure=>simp[intOf];omega
       ·have hBf:B=false:=by simpa using hB
        subst hBf
        have hst:Hid (toA f (k+1)=acc++[cK k p]):=Lib.hid (by rw[sK hfk hstp.out,hacc])
        clear hfk hacc hfm hB
        go_upto_region 14 with (fail)
        go_wp2_with (at_builtin;refine dJ rfl _ _ 60 rfl w.heap.size 69 _ 7 40 Try.underlying60 area_info rfl (by decide) _ acc.length (acc.flatMap gV) rfl (hown.alloc _) (some ⟨W2.heap.size,0,none⟩) 1 1 (gV (cK k p)) rfl (fun h=>(by cases h)) (Nat.le_refl _) rfl (bW.new _ (iT (cK k p)) _) (fun u hu=>jQ [cK k p] u (by simpa using hu)) (by unfold maxLen;omega) (by omega) (cz hbel.size _) ?_)
        intro v W6 hown6 hgr6
        have hbel6:Below w.heap.size w W6:=(hbel.alloc hbel.size _).grown hgr6 (cz hbel.size _) (hown.alloc (.cells (iT (cK k p)) 69)).ge
        have hbx6:aC W6 w.heap.size (fC f) 107:=iO (hbx.alloc (.cells (iT (cK k p)) 69)) (hown.alloc (.cells (iT (cK k p)) 69)) (by decide) hgr6
        have hown7:Own W6 w.heap.size 69 7 v (toA f (k+1)).length ((toA f (k+1)).flatMap gV):=by
         rw[hst.out,List.flatMap_append,List.length_append];simpa using hown6
        clear hown6 hgr6
        go_wp2
        go_roundw
        case rel=>exact⟨k+1,by omega,by go_num,hbel6,hbx6,hown7⟩
        case measure=>simp[intOf];omega
  ·have hk64:k=64:=by omega
   subst hk64
   go_wp2
   go_ret
   exact⟨_,rfl,hown,hbel⟩
theorem EB {a b:Ar} (ha:aH a=0) (hb:aH b=0) (h:a.en≤b.fr):(toA (aY [a,b]) 64).length=if bv a b=true then 1 else 2:=by
 have hs:srtF 0 [a,b]:=⟨ha,(aS ha).1.2.1.1,hb,h,trivial⟩
 have e:toA (aY [a,b]) 64=kQ [a,b]:=Au (xD hs) fun i _=>by rw[iF hs,xm hs]
 rw[e,pI]
 unfold kY
 split<;>rfl
theorem Ic (f:Nat→Option Pg) (m:List Ar) (hm:okF none m) (hf:∀i:Nat,i<64→f i=onA m i) (hf' : ∀i p,f i=some p→0≤p.pg∧p.pg≤100) (w:World) :
  Calls Try.prog 106 #[.agg (fC f)] w fun r w' => ∃v,r = .returned (.tuple #[v,.int .i64 (ve m.length)])∧Own w' w.heap.size 69 7 v (if 16<m.length then [] else m).length ((if 16<m.length then [] else m).flatMap gV)∧Below w.heap.size w w':=by
 have hs384:=Lib.hid (eX f)
 have hl64:=xy f 64
 rw[Au hm hf] at hl64
 go_enter Try.func106,Try.ntmps106
 go_upto_region 1 with (fail)
 refine eO (fun W=>Code.wp _ _ _ _ W) fun W0 hb0 hx0 hs0 => ?_
 clear hs0
 go_wp2_with (refine ax _ _ rfl _ 0 rfl rfl _ hx0.rd _ Try.underlying107 rfl (by rw[Array.length_toList,hs384.out];exact ones_size) ?_)
 refine (qZ f _ hf').mono ?_
 rintro r w1 ⟨v1,rfl,hO1,hb1⟩
 rw[Au hm hf] at hO1
 have hbel:=ag hb0 hb1
 replace hO1:=hO1.mono hb0.size
 obtain⟨a1,c1,rfl,_⟩:=hO1.rd
 clear hb0 hx0 hb1
 by_cases h:16<m.length
 ·have hi:(16:Int)<(m.length:Int):=by omega
  have hd:Hid (ve m.length=4):=Lib.hid (by unfold ve;rw[if_pos h])
  go_wp2
  go_ret2
  exact⟨.slice none 0 0,by first | (rw[hd.out];done) | (rw[hd.out];rfl),by first | exact Own.nil _ _ _ _ | (rw[if_pos h];exact Own.nil _ _ _ _),hbel⟩
 ·have hi:¬(16:Int)<(m.length:Int):=by omega
  have hd:Hid (ve m.length=0):=Lib.hid (by unfold ve;rw[if_neg h])
  go_wp2
  go_ret2
  exact⟨.slice a1 m.length c1,by first | (rw[hd.out];done) | (rw[hd.out];rfl),by first | exact hO1 | (rw[if_neg h];exact hO1),hbel⟩
theorem oq {P:Program} {ρ:Operand→Value} {o:Oper} {w:World} {t:TypeId} {x l h:Operand} {b off n c O sz:Nat} (ho:o.op = .slice t x (some l) (some h) none) (hx:ρ x = .slice (some ⟨b,off,none⟩) n c) (hl:ρ l = .int .i64 O) (hh:ρ h = .int .i64 ((O:Int)+2))
  (ht:P.underlying t=some (.slice (P.elem t))) (hs:(P.info? (P.elem t)).map (·.size)=some sz) (hO:O+1<n) (hn:n≤c) :
  (execOp ρ o).run P w = .ok (.value (.slice (some ⟨b,off+O*sz,none⟩) 2 (c-O))) w:=by
 have hsz:(Go.sizeOf (P.elem t)).run P w = .ok sz w:=by
  cases hq:P.info? (P.elem t) with
  | none=>simp[hq] at hs
  | some i=>
   have hz:i.size=sz:=by simpa[hq] using hs
   simp[Go.sizeOf,typeInfo,run_program,hq,hz]
 unfold execOp
 simp only[ho,hx,hl,hh,Option.map]
 rw[Sem.run_bind,run_sliceAt_slice w t _ _ _ _ ht,run_slice_lh w t _ n c ht .i64 .i64 O (O+2) (by omega) (by omega) (by omega),hsz]
 have e1:((O:Int)+2).toNat-(O:Int).toNat=2:=by omega
 have e2:((O:Int)+2).toNat-O=2:=by omega
 simp[sliced,e1,e2,Addr.add,show ¬c=O by omega,go_sem]
theorem Jt {w:World} {b off:Nat} {l:List Ar} (h:bW w (some ⟨b,off,none⟩) (l.flatMap gV)) {m:Nat} (hm:m+1<l.length):bW w (some ⟨b,off+m*7,none⟩) ([l[m],l[m+1]].flatMap gV):=by
 have h1:=uT h m (by omega)
 have h2:=uT h (m+1) hm
 intro j u hj
 refine⟨b,off+m*7,rfl,?_⟩
 simp only[List.flatMap_cons,List.flatMap_nil,List.append_nil] at hj
 by_cases c:j<7
 ·rw[List.getElem?_append_left (by rw[kM];exact c)] at hj
  exact h1 j u hj
 ·rw[List.getElem?_append_right (by rw[kM];omega),kM] at hj
  have:=h2 _ u hj
  rwa [show off+(m+1)*7+(j-7)=off+m*7+j by omega] at this
theorem tV (l:List Ar) (a:Option Addr) (c:Nat) (w:World) (h:JL w a c l) :
  Calls Try.prog 89 #[.slice a l.length c] w fun e w'=>e = .returned (.agg (zD (aR l)))∧Below w.heap.size w w':=by
 have hlc:=h.le
 have hlm:=Nat.le_trans h.le h.mx
 unfold maxLen at hlm
 have hrd:=h.rd
 go_enter Try.func89,Try.ntmps89
 go_upto_region 1 with (fail)
 refine eO (fun W=>Code.wp _ _ _ _ W) fun W0 hbel hres hs0 => ?_
 clear hs0
 by_cases h16:16<l.length
 ·have h16' : (16:Int)<(l.length:Int):=by omega
  have hz:Hid (aR l=(4,0)):=Lib.hid (by unfold aR;rw[if_pos h16])
  go_wp2_with (refine aB rfl _ _ _ rfl w.heap.size #[.int .i64 (4),.int .i64 (0)] rfl rfl _ _ hres rfl fau_size (gZ _ _) ?_)
  intro w5 hr5 hgr5
  have hbel5:Below w.heap.size w w5:=hbel.grown hgr5 hbel.size (fun k hk=>by cases hk;exact Nat.le_refl _)
  go_wp2
  refine bodyPost_ret (v:=.agg #[.int .i64 (4),.int .i64 (0)]) (bU Try.results89 _ _ w.heap.size _ _ _ rfl hr5 Try.underlying155 rfl fau_size) rfl ?_
  exact⟨by rw[hz.out];rfl,hbel5⟩
 ·have h16' : ¬(16:Int)<(l.length:Int):=by omega
  have h0:Hid (aR l=eQ (jA l 0) 0 (l.drop 0)):=Lib.hid (by unfold aR;rw[if_neg h16];rfl)
  go_upto_region 4 with (fail)
  go_loopw [12] (fun i wr => ∃k:Nat,k≤l.length∧i = .int .i64 k∧Below w.heap.size w wr∧aC wr w.heap.size #[.int .i64 0,.int .i64 0] 155∧(∀i (h:i<l.length),i<k→aH l[i]=0)∧Hid (aR l=eQ (jA l k) k (l.drop k))) (fun i _=>l.length-(intOf i).toNat)
  case atStart=>exact⟨0,Nat.zero_le _,rfl,hbel,hres,fun i _ h=>absurd h (Nat.not_lt_zero _),h0⟩
  case round=>
   clear hbel hres h0
   obtain⟨k,hk,rfl,hbel,hres,hp0,hst⟩:=hrel
   have hp:=Lib.hid hp0
   clear hp0
   by_cases hlt:k<l.length
   ·obtain⟨b,off,rfl,c0,c1,c2,c3,c4,c5,c6⟩:=Aj (hrd.below hbel) k hlt
    have hki:(k:Int)<(l.length:Int):=by omega
    go_upto_region 6 with (fail)
    refine eO (fun W=>Code.wp _ _ _ _ W) fun W1 hb1 hx1 hs1 => ?_
    have hbel:=ag hbel hb1
    have hres:=hres.ext hb1
    clear hs1 hb1 c0 c1 c2 c3 c4 c5 c6
    obtain⟨gx,hgx⟩:∃g,g=wr.heap.size:=⟨_,rfl⟩
    rw[←hgx] at hx1 ⊢
    clear hgx
    go_wp2_with (refine ax _ _ rfl _ 0 rfl rfl _ hx1.rd _ Try.underlying69 rfl area_size ?_)
    refine (wF l[k] _).mono ?_
    rintro r w2 ⟨rfl,hb2⟩
    have hbel2:=ag hbel hb2
    have hres2:=hres.ext hb2
    have hx2:=hx1.ext hb2
    clear hbel hres hb2 hx1
    by_cases he:aH l[k]=0
    ·have he':=Lib.hid he
     rw[he]
     clear he
     go_upto_region 9 with (fail)
     by_cases hk0:k=0
     ·subst hk0
      have hd0:decide ((0:Int)<((0:Nat):Int))=false:=rfl
      have hnx:Hid (aR l=eQ (jA l (0+1)) (0+1) (l.drop (0+1))):=Lib.hid (by rw[hst.out];exact lY hlt he'.out rfl)
      go_quiet (fail)
      go_wp2
      go_roundw
      case rel=>exact⟨0+1,by omega,by go_num,below_drewN hbel2 _,hres2.drewN _,jv hp.out hlt he'.out,hnx⟩
      case measure=>simp[intOf];omega
     ·obtain⟨m,rfl⟩:∃m,k=m+1:=⟨k-1,by omega⟩
      have hm1:IntKind.i64.wrap (((m+1:Nat):Int)-1)=(m:Int):=by rw[IntWalk.i64_in _ (by omega)];omega
      have hml:m<l.length:=by omega
      have hm2:IntKind.i64.wrap (m:Int)=(m:Int):=IntWalk.i64_in _ (by omega)
      have hm3:IntKind.i64.wrap ((m:Int)+1+1)=(m:Int)+2:=by rw[IntWalk.i64_in _ (by omega)];omega
      have hm4:IntKind.i64.wrap (((m+1:Nat):Int)+1)=(m:Int)+2:=by rw[IntWalk.i64_in _ (by omega)];omega
      have hbp:=Lib.hid (zL hlt)
      have hE0:=hp.out m hml (by omega)
      have hRd:=hrd.below hbel2
      have hPm:=uT hRd m hml
      have hT:=Jt hrd hlt
      have hpr:∀x∈[l[m],l[m+1]],aH x=0:=fun x hx=>by
       rcases List.mem_cons.1 hx with rfl|hx
       ·exact hE0
       ·rw[List.mem_singleton.1 hx];exact he'.out
      have hup:Hid (∀i (h:i<l.length),i<m+1+1→aH l[i]=0):=Lib.hid (jv hp.out hlt he'.out)
      generalize hA1:l[m+1]=A1 at *
      generalize hA0:l[m]=A0 at *
      by_cases hov:A1.fr<A0.en
      ·have hz:Hid (aR l=(2,((m+1:Nat):Int))):=Lib.hid (by rw[hst.out];exact lX hlt (by rw[hA1];exact he'.out) (by rw[hA1,hbp.out,decide_eq_true hov];rfl))
       have hpo:True:=trivial
       have hpl:True:=trivial
       refine aF 25 [_,_,_,_,_,_,.v (.pointer (some ⟨b,off+m*7,none⟩)),_,.v (.int .i64 A0.en),_,.v (.int .i64 A1.fr),_,_,_,_,_,_,_,_,_,_,_,_,_,.v (.bool true)] (Gk rfl (Gb (.bool true) (by simp[go_sem]) rfl rfl rfl rfl rfl (Gk rfl (Gk rfl (Gk rfl (Gb (.int .i64 (m:Int)) (by simp[go_sem,hm1,hm2]) rfl rfl rfl rfl rfl (all_cons ?_ (Gf b (off+m*7+1) rfl rfl (all_cons ?_ (Gf gx 0 rfl rfl (all_cons ?_ (Gb (.bool true) (by simp[go_sem,hov]) rfl rfl rfl rfl rfl (Gk rfl (Gk rfl (Gk rfl (Gk rfl (Gk rfl (Gk rfl (Gk rfl (Gk rfl (Gk rfl (Gk rfl (Gk rfl (Gk rfl (Gk rfl (all_nil)))))))))))))))))))))))))) (fun _=>rfl) rfl ?_
       ·intro ρ y W hw hn hb hd;have E27:=hw 27 3 rfl;have h3:y 3=_:=hd 3 rfl;have E29:=hw 29 5 rfl;have h5:y 5=_:=hd 5 rfl
        refine aj (.pointer (some ⟨b,off+m*7,none⟩)) (aL 2 26 true true rfl rfl ((hw 26 2 rfl).trans (hd 2 rfl))) (by simp[execOp,go_sem,E27,h3,E29,h5,hml]) rfl
       ·intro ρ y W hw hn hb hd;have E31:=hw 31 7 rfl;have h7:y 7=_:=hd 7 rfl
        have hc0:=(hPm.below hb).cells.2.1
        refine aj (.int .i64 A0.en) (aL 2 26 true true rfl rfl ((hw 26 2 rfl).trans (hd 2 rfl))) (by simp[execOp,go_sem,E31,h7,hc0]) rfl
       ·intro ρ y W hw hn hb hd;have E33:=hw 33 9 rfl;have h9:y 9=_:=hd 9 rfl
        have hc0:=(hx2.ext hb).cell 0
        simp at hc0
        refine aj (.int .i64 A1.fr) (aL 2 26 true true rfl rfl ((hw 26 2 rfl).trans (hd 2 rfl))) (by simp[execOp,go_sem,E33,h9,hc0]) rfl
       intro y WA hbWA _
       have hbel:=ag hbel2 hbWA
       have hres:=hres2.ext hbWA
       clear hbel2 hres2
       go_wp2_with (refine aB rfl _ _ _ rfl w.heap.size #[.int .i64 (2),.int .i64 (((m+1:Nat):Int))] rfl rfl _ _ hres rfl fau_size (gZ _ _) ?_)
       intro w5 hr5 hgr5
       have hbel5:Below w.heap.size w w5:=hbel.grown hgr5 hbel.size (fun k hk=>by cases hk;exact Nat.le_refl _)
       go_wp2
       refine bodyPost_ret (v:=.agg #[.int .i64 (2),.int .i64 (((m+1:Nat):Int))]) (bU Try.results89 _ _ w.heap.size _ _ _ rfl hr5 Try.underlying155 rfl fau_size) rfl ?_
       exact⟨by rw[hz.out];rfl,hbel5⟩
      ·have hs:srtF 0 [A0,A1]:=⟨hE0,(aS hE0).1.2.1.1,he'.out,by omega,trivial⟩
       have hpo:=yZ hs
       have hpl0:=EB hE0 he'.out (by omega:A0.en≤A1.fr)
       cases hj:bv A0 A1
       ·have hpl:(toA (aY [A0,A1]) 64).length=2:=by rw[hpl0,hj];rfl
        have hnx:Hid (aR l=eQ (jA l (m+1+1)) (m+1+1) (l.drop (m+1+1))):=Lib.hid (by rw[hst.out];exact lY hlt (by rw[hA1];exact he'.out) (by rw[hA1,hbp.out,decide_eq_false hov,hj];rfl))
        clear hpl0 hs
        refine aF 25 [_,_,_,_,_,_,.v (.pointer (some ⟨b,off+m*7,none⟩)),_,.v (.int .i64 A0.en),_,.v (.int .i64 A1.fr),_,_,_,_,_,_,_,_,.v (.agg (fC (aY [A0,A1]))),.r 20 ((kU w.heap.size 69 7 (toA (aY [A0,A1]) 64).length ((toA (aY [A0,A1]) 64).flatMap gV))),.v (.int .i64 (2)),_,_,.v (.bool false)] (Gk rfl (Gb (.bool true) (by simp[go_sem]) rfl rfl rfl rfl rfl (Gk rfl (Gk rfl (Gk rfl (Gb (.int .i64 (m:Int)) (by simp[go_sem,hm1,hm2]) rfl rfl rfl rfl rfl (all_cons ?_ (Gf b (off+m*7+1) rfl rfl (all_cons ?_ (Gf gx 0 rfl rfl (all_cons ?_ (Gb (.bool false) (by simp[go_sem,hov]) rfl rfl rfl rfl rfl (Gk rfl (Gk rfl (Gk rfl (Gb (.int .i64 (m:Int)) (by simp[go_sem,hm1,hm2]) rfl rfl rfl rfl rfl (Gk rfl (Gb (.int .i64 ((m:Int)+2)) (by simp[go_sem,hm3,hm4]) rfl rfl rfl rfl rfl (Gr (.slice (some ⟨b,off+m*7,none⟩) 2 (c-m)) (fun ρ y W hb hKn=>(oq rfl (az rfl hKn) (az rfl hKn) (az rfl hKn) Try.underlying60 area_size hlt hlc)) rfl rfl (all_cons ?_ (all_cons ?_ (all_cons ?_ (Gb (.bool false) (by simp[go_sem]) rfl rfl rfl rfl rfl (Gk rfl (Gk rfl (all_nil)))))))))))))))))))))))))) (fun _=>rfl) rfl ?_
        ·intro ρ y W hw hn hb hd;have E27:=hw 27 3 rfl;have h3:y 3=_:=hd 3 rfl;have E29:=hw 29 5 rfl;have h5:y 5=_:=hd 5 rfl
         refine aj (.pointer (some ⟨b,off+m*7,none⟩)) (aL 2 26 true true rfl rfl ((hw 26 2 rfl).trans (hd 2 rfl))) (by simp[execOp,go_sem,E27,h3,E29,h5,hml]) rfl
        ·intro ρ y W hw hn hb hd;have E31:=hw 31 7 rfl;have h7:y 7=_:=hd 7 rfl
         have hc0:=(hPm.below hb).cells.2.1
         refine aj (.int .i64 A0.en) (aL 2 26 true true rfl rfl ((hw 26 2 rfl).trans (hd 2 rfl))) (by simp[execOp,go_sem,E31,h7,hc0]) rfl
        ·intro ρ y W hw hn hb hd;have E33:=hw 33 9 rfl;have h9:y 9=_:=hd 9 rfl
         have hc0:=(hx2.ext hb).cell 0
         simp at hc0
         refine aj (.int .i64 A1.fr) (aL 2 26 true true rfl rfl ((hw 26 2 rfl).trans (hd 2 rfl))) (by simp[execOp,go_sem,E33,h9,hc0]) rfl
        ·intro ρ y W hw hn hb hd;have E42:=hw 42 18 rfl;have h18:y 18=_:=hd 18 rfl
         have EF:∀f,ρ (.func f) = .func (.func f) #[] #[]:=fun f=>hn (.func f) trivial
         refine aP _ _ (aL 12 36 false false rfl rfl ((hw 36 12 rfl).trans (hd 12 rfl))) (aN rfl (EF _) Try.func44 (by kernel_rfl) (by kernel_rfl) (by simp only[List.map_toArray,List.map_cons,List.map_nil,E42,h18,EF];rfl)) ?_
         refine (iQ [A0,A1] _ (c-m) W (hT.below (ag hbel2 hb)) (by simp) hpr).mono ?_
         rintro r w1 ⟨rfl,hb1⟩
         exact⟨_,rfl,hb1,rfl⟩
        ·intro ρ y W hw hn hb hd;have E43:=hw 43 19 rfl;have h19:y 19=_:=hd 19 rfl
         have EF:∀f,ρ (.func f) = .func (.func f) #[] #[]:=fun f=>hn (.func f) trivial
         refine aP _ _ (aL 12 36 false false rfl rfl ((hw 36 12 rfl).trans (hd 12 rfl))) (aN rfl (EF _) Try.func118 (by kernel_rfl) (by kernel_rfl) (by simp only[List.map_toArray,List.map_cons,List.map_nil,E43,h19,EF];rfl)) ?_
         refine (qZ (aY [A0,A1]) W hpo).mono ?_
         rintro r w1 ⟨v1,rfl,ho,hb1⟩
         exact⟨v1,rfl,hb1,ho.mono (Nat.le_trans hbel2.size hb.size)⟩
        ·intro ρ y W hw hn hb hd;have E44:=hw 44 20 rfl;have h20:=hd 20 rfl
         obtain⟨a20,c20,h20v,_⟩:=Own.rd h20
         refine aj (.int .i64 (2)) (aL 12 36 false false rfl rfl ((hw 36 12 rfl).trans (hd 12 rfl))) (by simp[execOp,go_sem,E44,h20v,hpl]) rfl
        intro y WA hbWA hRWA
        have hy20:((kU w.heap.size 69 7 (toA (aY [A0,A1]) 64).length ((toA (aY [A0,A1]) 64).flatMap gV))).r (y 20) WA:=hRWA 20 (by decide)
        clear hRWA
        have hbel:=ag hbel2 hbWA
        have hres:=hres2.ext hbWA
        clear hbel2 hres2 hm1 hm2 hm3 hm4 hpl
        go_wp2
        go_roundw
        case rel=>exact⟨m+1+1,by omega,by go_num,hbel,hres,hup.out,hnx⟩
        case measure=>simp[intOf];omega
       ·have hpl:(toA (aY [A0,A1]) 64).length=1:=by rw[hpl0,hj];rfl
        have hz:Hid (aR l=(2,((m+1:Nat):Int))):=Lib.hid (by rw[hst.out];exact lX hlt (by rw[hA1];exact he'.out) (by rw[hA1,hbp.out,hj,Bool.or_true]))
        clear hpl0 hs
        refine aF 25 [_,_,_,_,_,_,.v (.pointer (some ⟨b,off+m*7,none⟩)),_,.v (.int .i64 A0.en),_,.v (.int .i64 A1.fr),_,_,_,_,_,_,_,_,.v (.agg (fC (aY [A0,A1]))),.r 20 ((kU w.heap.size 69 7 (toA (aY [A0,A1]) 64).length ((toA (aY [A0,A1]) 64).flatMap gV))),.v (.int .i64 (1)),_,_,.v (.bool true)] (Gk rfl (Gb (.bool true) (by simp[go_sem]) rfl rfl rfl rfl rfl (Gk rfl (Gk rfl (Gk rfl (Gb (.int .i64 (m:Int)) (by simp[go_sem,hm1,hm2]) rfl rfl rfl rfl rfl (all_cons ?_ (Gf b (off+m*7+1) rfl rfl (all_cons ?_ (Gf gx 0 rfl rfl (all_cons ?_ (Gb (.bool false) (by simp[go_sem,hov]) rfl rfl rfl rfl rfl (Gk rfl (Gk rfl (Gk rfl (Gb (.int .i64 (m:Int)) (by simp[go_sem,hm1,hm2]) rfl rfl rfl rfl rfl (Gk rfl (Gb (.int .i64 ((m:Int)+2)) (by simp[go_sem,hm3,hm4]) rfl rfl rfl rfl rfl (Gr (.slice (some ⟨b,off+m*7,none⟩) 2 (c-m)) (fun ρ y W hb hKn=>(oq rfl (az rfl hKn) (az rfl hKn) (az rfl hKn) Try.underlying60 area_size hlt hlc)) rfl rfl (all_cons ?_ (all_cons ?_ (all_cons ?_ (Gb (.bool true) (by simp[go_sem]) rfl rfl rfl rfl rfl (Gk rfl (Gk rfl (all_nil)))))))))))))))))))))))))) (fun _=>rfl) rfl ?_
        ·intro ρ y W hw hn hb hd;have E27:=hw 27 3 rfl;have h3:y 3=_:=hd 3 rfl;have E29:=hw 29 5 rfl;have h5:y 5=_:=hd 5 rfl
         refine aj (.pointer (some ⟨b,off+m*7,none⟩)) (aL 2 26 true true rfl rfl ((hw 26 2 rfl).trans (hd 2 rfl))) (by simp[execOp,go_sem,E27,h3,E29,h5,hml]) rfl
        ·intro ρ y W hw hn hb hd;have E31:=hw 31 7 rfl;have h7:y 7=_:=hd 7 rfl
         have hc0:=(hPm.below hb).cells.2.1
         refine aj (.int .i64 A0.en) (aL 2 26 true true rfl rfl ((hw 26 2 rfl).trans (hd 2 rfl))) (by simp[execOp,go_sem,E31,h7,hc0]) rfl
        ·intro ρ y W hw hn hb hd;have E33:=hw 33 9 rfl;have h9:y 9=_:=hd 9 rfl
         have hc0:=(hx2.ext hb).cell 0
         simp at hc0
         refine aj (.int .i64 A1.fr) (aL 2 26 true true rfl rfl ((hw 26 2 rfl).trans (hd 2 rfl))) (by simp[execOp,go_sem,E33,h9,hc0]) rfl
        ·intro ρ y W hw hn hb hd;have E42:=hw 42 18 rfl;have h18:y 18=_:=hd 18 rfl
         have EF:∀f,ρ (.func f) = .func (.func f) #[] #[]:=fun f=>hn (.func f) trivial
         refine aP _ _ (aL 12 36 false false rfl rfl ((hw 36 12 rfl).trans (hd 12 rfl))) (aN rfl (EF _) Try.func44 (by kernel_rfl) (by kernel_rfl) (by simp only[List.map_toArray,List.map_cons,List.map_nil,E42,h18,EF];rfl)) ?_
         refine (iQ [A0,A1] _ (c-m) W (hT.below (ag hbel2 hb)) (by simp) hpr).mono ?_
         rintro r w1 ⟨rfl,hb1⟩
         exact⟨_,rfl,hb1,rfl⟩
        ·intro ρ y W hw hn hb hd;have E43:=hw 43 19 rfl;have h19:y 19=_:=hd 19 rfl
         have EF:∀f,ρ (.func f) = .func (.func f) #[] #[]:=fun f=>hn (.func f) trivial
         refine aP _ _ (aL 12 36 false false rfl rfl ((hw 36 12 rfl).trans (hd 12 rfl))) (aN rfl (EF _) Try.func118 (by kernel_rfl) (by kernel_rfl) (by simp only[List.map_toArray,List.map_cons,List.map_nil,E43,h19,EF];rfl)) ?_
         refine (qZ (aY [A0,A1]) W hpo).mono ?_
         rintro r w1 ⟨v1,rfl,ho,hb1⟩
         exact⟨v1,rfl,hb1,ho.mono (Nat.le_trans hbel2.size hb.size)⟩
        ·intro ρ y W hw hn hb hd;have E44:=hw 44 20 rfl;have h20:=hd 20 rfl
         obtain⟨a20,c20,h20v,_⟩:=Own.rd h20
         refine aj (.int .i64 (1)) (aL 12 36 false false rfl rfl ((hw 36 12 rfl).trans (hd 12 rfl))) (by simp[execOp,go_sem,E44,h20v,hpl]) rfl
        intro y WA hbWA hRWA
        have hy20:((kU w.heap.size 69 7 (toA (aY [A0,A1]) 64).length ((toA (aY [A0,A1]) 64).flatMap gV))).r (y 20) WA:=hRWA 20 (by decide)
        clear hRWA
        have hbel:=ag hbel2 hbWA
        have hres:=hres2.ext hbWA
        clear hbel2 hres2
        go_wp2_with (refine aB rfl _ _ _ rfl w.heap.size #[.int .i64 (2),.int .i64 (((m+1:Nat):Int))] rfl rfl _ _ hres rfl fau_size (gZ _ _) ?_)
        intro w5 hr5 hgr5
        have hbel5:Below w.heap.size w w5:=hbel.grown hgr5 hbel.size (fun k hk=>by cases hk;exact Nat.le_refl _)
        go_wp2
        refine bodyPost_ret (v:=.agg #[.int .i64 (2),.int .i64 (((m+1:Nat):Int))]) (bU Try.results89 _ _ w.heap.size _ _ _ rfl hr5 Try.underlying155 rfl fau_size) rfl ?_
        exact⟨by rw[hz.out];rfl,hbel5⟩
    ·have hz:Hid (aR l=(aH l[k],(k:Int))):=Lib.hid (by rw[hst.out];exact wm hlt he)
     have he' : (aH l[k] != 0)=true:=by simpa using he
     have hbel:=hbel2
     have hres:=hres2
     clear he hbel2 hres2
     go_wp2_with (refine aB rfl _ _ _ rfl w.heap.size #[.int .i64 (aH l[k]),.int .i64 (k)] rfl rfl _ _ hres rfl fau_size (gZ _ _) ?_)
     intro w5 hr5 hgr5
     have hbel5:Below w.heap.size w w5:=hbel.grown hgr5 hbel.size (fun k hk=>by cases hk;exact Nat.le_refl _)
     go_wp2
     refine bodyPost_ret (v:=.agg #[.int .i64 (aH l[k]),.int .i64 (k)]) (bU Try.results89 _ _ w.heap.size _ _ _ rfl hr5 Try.underlying155 rfl fau_size) rfl ?_
     exact⟨by rw[hz.out];rfl,hbel5⟩
   ·have hz:Hid (aR l=(0,0)):=Lib.hid (by rw[hst.out,List.drop_eq_nil_of_le (by omega)];rfl)
    go_wp2_with (refine aB rfl _ _ _ rfl w.heap.size #[.int .i64 (0),.int .i64 (0)] rfl rfl _ _ hres rfl fau_size (gZ _ _) ?_)
    intro w5 hr5 hgr5
    have hbel5:Below w.heap.size w w5:=hbel.grown hgr5 hbel.size (fun k hk=>by cases hk;exact Nat.le_refl _)
    go_wp2
    refine bodyPost_ret (v:=.agg #[.int .i64 (0),.int .i64 (0)]) (bU Try.results89 _ _ w.heap.size _ _ _ rfl hr5 Try.underlying155 rfl fau_size) rfl ?_
    exact⟨by rw[hz.out];rfl,hbel5⟩
theorem JG {t u:Tb} (ht:bB t=0) (hu:bB u=0) (h:∀n,bS t n=bS u n):t=u:=by
 rw[←oO ht,←oO hu]
 unfold bu
 congr 1
 exact List.map_congr_left fun n _=>h n
def tL (t:List En):List Value:=(List.range 64).flatMap fun i=>iC (t.getD i zEn)
theorem oM (t:List En):(tL t).length=192:=by
 unfold tL
 rw[Pw.flat_len (fun i=>iC (t.getD i zEn)) 3 (fun _=>di _),List.length_range]
structure MW where
 al:Option Addr
 cl:Nat
 l:List UInt8
 H:MH
 ab:Option Addr
 cb:Nat
 T:List (List En)
def dR (S:MW):Array Value:=#[.slice S.al S.l.length S.cl,.slice S.H.af S.H.m.fs.length S.H.cf,.int .i64 S.H.m.hand,.slice S.H.asl S.H.sl.length S.H.csl,.slice S.H.wb S.H.sw.blocks.length S.H.cwb,.slice S.H.wq S.H.sw.queue.length S.H.cwq,
 .slice S.H.db S.H.dk.blocks.length S.H.cdb,.slice S.H.dq S.H.dk.queue.length S.H.cdq,.slice S.H.ai S.H.fi.length S.H.ci,.int .i64 S.H.ct,.slice S.H.ac S.H.ca.length S.H.cc,.slice S.H.ap S.H.sp.length S.H.cp,.slice S.ab S.T.length S.cb]
def dH (S:MW):List (Option Nat):=[oB S.H.af,oB S.H.asl,oB S.H.wb,oB S.H.db,oB S.H.dq,oB S.H.ai,oB S.H.ac,oB S.H.ap,oB S.ab]
def gM (b:Nat) (S:MW) (x:Nat):Prop:=x=b∨some x∈dH S
structure bR (w:World) (B b:Nat) (S:MW):Prop where
 blk:aC w b (dR S) 89
 ge:B≤b
 ma:sG w B S.H
 tt:Own w B 95 192 (.slice S.ab S.T.length S.cb) S.T.length (S.T.flatMap tL)
 rd:kD w S.al S.cl S.l.length (S.l.map gW)
 ra:∀a,S.al=some a→S.l.map gW≠[]→a.block<B
 n1:∀x,oB S.H.wb=some x→oB S.H.db≠some x
 n2:∀p∈S.H.fi,∀x,oB p.a=some x→oB S.H.asl≠some x
 n3:S.H.wq=none
structure MS (w0:World) (b:Nat) (S0:MW) (w:World) (S:MW):Prop where
 os:w.os=w0.os
 tape:w.tape=w0.tape
 output:w.output=w0.output
 size:w0.heap.size≤w.heap.size
 keep:∀x,x<w0.heap.size→¬gM b S0 x→w.heap[x]?=w0.heap[x]?
 sn:∀x,gM b S x→gM b S0 x∨w0.heap.size≤x
theorem MS.refl (w:World) (b:Nat) (S:MW):MS w b S w S:=⟨rfl,rfl,rfl,Nat.le_refl _,fun _ _ _=>rfl,fun _ h => .inl h⟩
theorem MS.trans {w0 w1 w2:World} {b:Nat} {H0 H1 H2:MW} (h:MS w0 b H0 w1 H1) (k:MS w1 b H1 w2 H2):MS w0 b H0 w2 H2:=
 ⟨k.os.trans h.os,k.tape.trans h.tape,k.output.trans h.output,Nat.le_trans h.size k.size,fun x hx hn=>(k.keep x (Nat.lt_of_lt_of_le hx h.size) (fun hk=>(h.sn x hk).elim hn (fun hh=>absurd hx (Nat.not_lt.2 hh)))).trans (h.keep x hx hn),
  fun x hx=>(k.sn x hx).elim (h.sn x) (fun hh => .inr (Nat.le_trans h.size hh))⟩
theorem MS.below {w0 w w' : World} {b:Nat} {H0 H:MW} (h:MS w0 b H0 w H) (hb:Below w.heap.size w w'):MS w0 b H0 w' H:=
 ⟨hb.os.trans h.os,hb.tape.trans h.tape,hb.output.trans h.output,Nat.le_trans h.size hb.size,fun x hx hn=>(hb.block x (Nat.lt_of_lt_of_le hx h.size)).trans (h.keep x hx hn),h.sn⟩
theorem MS.put {w0 w w' : World} {b y:Nat} {H0 H H' : MW} (h:MS w0 b H0 w H) (hg:w.grownBy w' (some y)) (hy:gM b H y) (hn:∀x,gM b H' x→gM b H x∨w0.heap.size≤x):MS w0 b H0 w' H':=
 ⟨hg.os.trans h.os,hg.tape.trans h.tape,hg.output.trans h.output,Nat.le_trans h.size hg.size,fun x hx hnx=>(hg.block x (Nat.lt_of_lt_of_le hx h.size) (fun e=>by
  have e' : x=y:=Option.some.inj e
  rw[←e'] at hy
  exact (h.sn x hy).elim hnx (fun hh=>absurd hx (Nat.not_lt.2 hh)))).trans (h.keep x hx hnx),fun x hx=>(hn x hx).elim (h.sn x) .inr⟩
theorem MS.loc {w0 w w' : World} {b y:Nat} {H0 H:MW} (h:MS w0 b H0 w H) (hg:w.grownBy w' (some y)) (hy:w0.heap.size≤y):MS w0 b H0 w' H:=
 ⟨hg.os.trans h.os,hg.tape.trans h.tape,hg.output.trans h.output,Nat.le_trans h.size hg.size,fun x hx hnx=>(hg.block x (Nat.lt_of_lt_of_le hx h.size) (fun e=>by
  have e' : x=y:=Option.some.inj e
  omega)).trans (h.keep x hx hnx),h.sn⟩
theorem MS.same {w0 w:World} {b:Nat} {H0 H H' : MW} (h:MS w0 b H0 w H) (he:dH H' = dH H):MS w0 b H0 w H':=
 { h with sn:=fun x hx=>h.sn x (by unfold gM at hx ⊢; rw[←he];exact hx) }
theorem bR.lt {w:World} {B b:Nat} {S:MW} (h:bR w B b S):b<w.heap.size:=h.blk.lt
theorem bR.bs {w:World} {B b:Nat} {S:MW} (h:bR w B b S):B≤w.heap.size:=Nat.le_trans h.ge (Nat.le_of_lt h.lt)
theorem bR.below {w w' : World} {B b:Nat} {S:MW} (h:bR w B b S) (hb:Below w.heap.size w w'):bR w' B b S:=⟨h.blk.ext hb,h.ge,h.ma.below hb,h.tt.below hb,h.rd.below hb,h.ra,h.n1,h.n2,h.n3⟩
theorem bR.kb_own {w:World} {B b:Nat} {S:MW} (h:bR w B b S) {x:Nat} (hx:gM b S x):B≤x∧x<w.heap.size:=by
 have own:∀ {e:TypeId} {sz n c:Nat} {a:Option Addr} {xs:List Value},Own w B e sz (.slice a n c) n xs→oB a=some x→B≤x∧x<w.heap.size:=fun ho hx=>by
  obtain⟨h1,cs,h2⟩:=gJ ho hx
  exact⟨h1,h2.lt⟩
 rcases hx with hx|hx
 ·rw[hx];exact⟨h.ge,h.lt⟩
 ·simp only[dH,List.mem_cons,List.not_mem_nil,or_false] at hx
  rcases hx with hx|hx|hx|hx|hx|hx|hx|hx|hx
  ·exact own h.ma.fr hx.symm
  ·exact own h.ma.sl hx.symm
  ·exact own h.ma.sw.b hx.symm
  ·exact own h.ma.dk.b hx.symm
  ·exact own h.ma.dk.q hx.symm
  ·exact own h.ma.st.own hx.symm
  ·exact own h.ma.ca hx.symm
  ·exact own h.ma.sp hx.symm
  ·exact own h.tt hx.symm
theorem MS.to {w0 w:World} {B B0 b:Nat} {S0 S:MW} (h:bR w0 B b S0) (hs:MS w0 b S0 w S) (hB:B0≤B):Below B0 w0 w:=
 ⟨hs.os,hs.tape,hs.output,hs.size,fun x hx=>hs.keep x (by have:=h.bs;omega) (fun hk=>by have:=(h.kb_own hk).1;omega)⟩
theorem MS.blkN {w0 w:World} {b x:Nat} {S0 S:MW} {cs:Array Value} {T:TypeId} (hs:MS w0 b S0 w S) (hk:aC w0 x cs T) (hx:¬gM b S0 x):aC w x cs T:=(hs.keep x hk.lt hx).trans hk
theorem MS.not {w0 w:World} {b x:Nat} {S0 S:MW} (hs:MS w0 b S0 w S) (hl:x<w0.heap.size) (hx:¬gM b S0 x):¬gM b S x:=fun h=>(hs.sn x h).elim hx (fun h=>by omega)
theorem MS.ownN {w0 w:World} {b B' : Nat} {S0 S:MW} {t:TypeId} {sz n:Nat} {v:Value} {xs:List Value} (hs:MS w0 b S0 w S) (ho:Own w0 B' t sz v n xs) (hx:∀x,v.ownBlock=some x→¬gM b S0 x):Own w B' t sz v n xs:=
 ⟨ho.1,ho.2.imp id fun⟨g,off,cap,cur,hv,hB,hk,r⟩=>⟨g,off,cap,cur,hv,hB,hs.blkN hk (hx g (by rw[hv];rfl)),r⟩⟩
theorem bR.new {w:World} {B b:Nat} {S:MW} (h:bR w B b S) {x:Nat} (hx:w.heap.size≤x):¬gM b S x:=fun hk=>by have:=(h.kb_own hk).2;omega
theorem kD.keep {w w' : World} {B:Nat} {a:Option Addr} {c n:Nat} {vs:List Value} (h:kD w a c n vs) (ha:∀x,a=some x→vs≠[]→x.block<B) (hB:B≤w.heap.size) {g:Nat} (hg:w.grownBy w' (some g)) (hgB:B≤g):kD w' a c n vs:=
 ⟨h.le,h.mx,h.nl,fun i u hi=>by
  obtain⟨b',o',e,hc⟩:=h.rd i u hi
  have hl:b' < B:=ha _ e (fun e0=>by rw[e0] at hi;cases hi)
  exact⟨b',o',e,hg.cell hc (fun e=>by have h3:b' = g:=Option.some.inj e;omega)⟩⟩
theorem bR.putL {w w' : World} {B b:Nat} {S:MW} (h:bR w B b S) {a:Option Addr} {c:Nat} {l:List UInt8} (hr:kD w a c l.length (l.map gW)) (ha:∀x,a=some x→l.map gW≠[]→x.block<B) (hb:aC w' b (putAt (dR S) 0 [.slice a l.length c]) 89) (hg:w.grownBy w' (some b)) :
  bR w' B b { S with al:=a,cl:=c,l:=l }:=
 ⟨hb,h.ge,h.ma.keep h.blk (by decide) hg,ak h.tt h.blk (by decide) hg,hr.keep ha h.bs hg h.ge,ha,h.n1,h.n2,h.n3⟩
theorem sG.putF {w w' : World} {B:Nat} {H:MH} (h:sG w B H) {g:Nat} {cs:Array Value} (hk:aC w g cs 59) (hg:w.grownBy w' (some g)) {m:Mem} (ho:Own w' B 59 13 (.slice H.af m.fs.length H.cf) m.fs.length (m.fs.flatMap mD)):sG w' B { H with m:=m }:=
 ⟨ho,ak h.sl hk (by decide) hg,h.sw.keep hk (by decide) (by decide) hg,h.dk.keep hk (by decide) (by decide) hg,h.st.keep hk (by decide) (by decide) hg,ak h.ca hk (by decide) hg,ak h.sp hk (by decide) hg,fun p hp=>⟨ak (h.ps p hp).1 hk (by decide) hg,(h.ps p hp).2.keep hk (by decide) hg⟩,h.c64⟩
theorem bR.putF {w w' : World} {B b:Nat} {S:MW} (h:bR w B b S) {g:Nat} {cs:Array Value} (hk:aC w g cs 59) (hgB:B≤g) (hg:w.grownBy w' (some g)) {fs:List Fr} (hl:fs.length=S.H.m.fs.length) (ho:Own w' B 59 13 (.slice S.H.af fs.length S.H.cf) fs.length (fs.flatMap mD)) :
  bR w' B b { S with H:={ S.H with m:=⟨fs,S.H.m.hand⟩ } }:=
 ⟨by
  have h1:=dB h.blk hk (by decide) hg
  have e:dR { S with H:={ S.H with m:=⟨fs,S.H.m.hand⟩ } }=dR S:=by unfold dR;rw[show ({ S.H with m:=⟨fs,S.H.m.hand⟩ }:MH).m.fs.length=S.H.m.fs.length from hl]
  rw[e];exact h1,h.ge,h.ma.putF hk hg (m:=⟨fs,S.H.m.hand⟩) ho,ak h.tt hk (by decide) hg,h.rd.keep h.ra h.bs hg hgB,h.ra,h.n1,h.n2,h.n3⟩
theorem Ct (t:List En) (i r:Nat) (hi:i<64) (hr:r<3):(tL t)[i*3+r]?=(iC (t.getD i zEn))[r]?:=by
 unfold tL
 rw[fQ (fun i=>iC (t.getD i zEn)) 3 (fun _=>di _) (List.range 64) i (by rw[List.length_range];exact hi) r hr,List.getElem_range]
theorem Jj {t:List En} {n:Nat} {x:En} (hl:t.length=64) (hn:n<64) (cur:Array Value) (o:Nat) (hs:o+192≤cur.size) (hc:∀j u,(tL t)[j]?=some u→cur[o+j]?=some u) :
  putAt cur (o+n*3) (iC x)=putAt cur o (tL (t.set n x)):=by
 have hset:∀i,i<64→(t.set n x).getD i zEn=if i=n then x else t.getD i zEn:=fun i hi=>by
  rw[List.getD_eq_getElem?_getD,List.getElem?_set]
  by_cases e:i=n
  ·subst e;rw[if_pos rfl,if_pos (by omega),if_pos rfl];rfl
  ·rw[if_neg (fun h=>e h.symm),if_neg e,List.getD_eq_getElem?_getD]
 apply Array.ext_getElem?
 intro m
 have hl3:(iC x).length=3:=di x
 have hl192:=oM (t.set n x)
 by_cases h1:o≤m∧m<o+192
 ·obtain⟨d,rfl⟩:∃d,m=o+d:=⟨m-o,by omega⟩
  have hd:d<192:=by omega
  obtain⟨i,r,hi,hr,rfl⟩:∃i r,i<64∧r<3∧d=i*3+r:=⟨d / 3,d%3,by omega,by omega,by omega⟩
  obtain⟨u,hu⟩:∃u,(tL (t.set n x))[i*3+r]?=some u:=⟨_,List.getElem?_eq_getElem (by omega)⟩
  rw[putAt_in _ _ _ _ u (by rw[hl192];exact hs) hu]
  rw[Ct _ i r hi hr,hset i hi] at hu
  by_cases e:i=n
  ·subst e
   rw[if_pos rfl] at hu
   rw[←Nat.add_assoc]
   exact putAt_in _ _ _ _ u (by omega) hu
  ·rw[if_neg e] at hu
   rw[putAt_out _ _ _ _ (by omega)]
   exact hc _ _ (by rw[Ct _ i r hi hr];exact hu)
 ·rw[putAt_out _ _ _ _ (by omega),putAt_out _ _ _ _ (by omega)]
theorem bR.lst_len {S:MW} {p:Nat} (hp:p<S.T.length):bY S.T p=S.T[p]:=by
 unfold bY
 rw[List.getD_eq_getElem?_getD,List.getElem?_eq_getElem hp];rfl
theorem bR.ent {w:World} {B b:Nat} {S:MW} (h:bR w B b S) {p n:Nat} (hp:p<S.T.length) (hn:n<64) (h64:(bY S.T p).length=64) :
  ∃g off cur,S.ab=some ⟨g,off,none⟩∧B≤g∧aC w g cur 95∧off+p*192+n*3+3≤cur.size∧(∀j u,(iC (bZ S.T p n))[j]?=some u→w.cell? ⟨g,off+p*192+n*3+j,none⟩=some u) ∧
   ∀w' x,aC w' g (putAt cur (off+p*192+n*3) (iC x)) 95→w.grownBy w' (some g)→bR w' B b { S with T:=aW S.T p n x }:=by
 obtain⟨g,off,cap,cur,hv,hB,hg,hs,hc,hw⟩:=h.tt.put oM (by decide) p hp
 simp only[Value.slice.injEq] at hv
 obtain⟨hv,_,_⟩:=hv
 refine⟨g,off,cur,hv,hB,hg,by omega,fun j u hj => ?_,fun w' x hw' hgr => ?_⟩
 ·have hj3:j<3:=by
   rcases Nat.lt_or_ge j 3 with h|h
   ·exact h
   ·rw[List.getElem?_eq_none (by rw[di];exact h)] at hj;cases hj
  have:=hc (n*3+j) u (by rw[Ct _ n j hn hj3,←bR.lst_len hp];exact hj)
  rw[←this]
  congr 2
  omega
 ·have hcur:∀j u,(tL (bY S.T p))[j]?=some u→cur[off+p*192+j]?=some u:=fun j u hj=>by
   rw[bR.lst_len hp] at hj
   have:=hc j u hj
   rw[hg.cell] at this
   exact this
  rw[Jj h64 hn cur _ (by omega) hcur] at hw'
  have ho:=hw w' _ hw'
  have hlen:({ S with T:=aW S.T p n x }:MW).T.length=S.T.length:=by show (aW S.T p n x).length=_;unfold aW;rw[List.length_set]
  refine⟨?_,h.ge,h.ma.keep hg (by decide) hgr,?_,h.rd.keep h.ra h.bs hgr hB,h.ra,h.n1,h.n2,h.n3⟩
  ·have e:dR { S with T:=aW S.T p n x }=dR S:=by unfold dR;rw[hlen]
   rw[e]
   exact dB h.blk hg (by decide) hgr
  ·rw[hlen];exact ho
theorem bR.putS {w w' : World} {B b : Nat} {S : MW} (h : bR w B b S) {g : Nat} {cs : Array Value} (hk : aC w g cs 3) (hgB : B ≤ g) (hga : oB S.H.asl = some g) (hg : w.grownBy w' (some g)) {sl : List Int} (hl : sl.length = S.H.sl.length) (ho : Own w' B 3 1 (.slice S.H.asl sl.length S.H.csl) sl.length (sl.map eU)) :
    bR w' B b { S with H := { S.H with sl := sl } } :=
  ⟨by
    have h1 := dB h.blk hk (by decide) hg
    have e : dR { S with H := { S.H with sl := sl } } = dR S := by unfold dR; rw [show ({ S.H with sl := sl } : MH).sl.length = S.H.sl.length from hl]
    rw [e]; exact h1, h.ge,
   ⟨ak h.ma.fr hk (by decide) hg, ho, h.ma.sw.keep hk (by decide) (by decide) hg, h.ma.dk.keep hk (by decide) (by decide) hg, ⟨ak h.ma.st.own hk (by decide) hg, fun i p hp => (h.ma.st.each i p hp).grown hg (fun g' hg' e => by
      cases e
      unfold kE at hg'
      rw [gF] at hg'
      exact h.n2 p (List.mem_of_getElem? hp) _ hg' hga), h.ma.st.apart⟩, ak h.ma.ca hk (by decide) hg, ak h.ma.sp hk (by decide) hg, fun p hp => ⟨ak (h.ma.ps p hp).1 hk (by decide) hg, (h.ma.ps p hp).2.keep hk (by decide) hg⟩, h.ma.c64⟩,
   ak h.tt hk (by decide) hg, h.rd.keep h.ra h.bs hg hgB, h.ra, h.n1, h.n2, h.n3⟩
theorem bR.putW {w w' : World} {B b : Nat} {S : MW} (h : bR w B b S) {g : Nat} {cs : Array Value} (hk : aC w g cs 50) (hgB : B ≤ g) (hga : oB S.H.wb = some g) (hg : w.grownBy w' (some g)) {l : List Page} (hl : l.length = S.H.sw.blocks.length) (ho : Own w' B 50 8 (.slice S.H.wb l.length S.H.cwb) l.length (l.flatMap sI)) :
    bR w' B b { S with H := { S.H with sw := ⟨l, S.H.sw.queue⟩ } } :=
  ⟨by
    have h1 := dB h.blk hk (by decide) hg
    have e : dR { S with H := { S.H with sw := ⟨l, S.H.sw.queue⟩ } } = dR S := by unfold dR; rw [show ({ S.H with sw := ⟨l, S.H.sw.queue⟩ } : MH).sw.blocks.length = S.H.sw.blocks.length from hl]
    rw [e]; exact h1, h.ge,
   ⟨ak h.ma.fr hk (by decide) hg, ak h.ma.sl hk (by decide) hg, ⟨ho, ak h.ma.sw.q hk (by decide) hg⟩, ⟨h.ma.dk.b.grown hg (fun g' hg' e => by
      cases e
      rw [gF] at hg'
      exact h.n1 _ hga hg'), ak h.ma.dk.q hk (by decide) hg⟩, h.ma.st.keep hk (by decide) (by decide) hg, ak h.ma.ca hk (by decide) hg, ak h.ma.sp hk (by decide) hg, fun p hp => ⟨ak (h.ma.ps p hp).1 hk (by decide) hg, (h.ma.ps p hp).2.keep hk (by decide) hg⟩, h.ma.c64⟩,
   ak h.tt hk (by decide) hg, h.rd.keep h.ra h.bs hg hgB, h.ra, h.n1, h.n2, h.n3⟩
theorem bR.setC {w w' : World} {B b:Nat} {S:MW} (h:bR w B b S) {a:Option Addr} {c:Nat} {l:List Cc} (ho:Own w B 85 3 (.slice a l.length c) l.length (l.flatMap jI)) (hb:aC w' b (putAt (dR S) 10 [.slice a l.length c]) 89) (hg:w.grownBy w' (some b)) :
  bR w' B b { S with H:={ S.H with ac:=a,cc:=c,ca:=l } }:=
 ⟨hb,h.ge,{ h.ma.keep h.blk (by decide) hg with ca:=ak ho h.blk (by decide) hg },ak h.tt h.blk (by decide) hg,h.rd.keep h.ra h.bs hg h.ge,h.ra,h.n1,h.n2,h.n3⟩
def MW.lst (S:MW) (a:Option Addr) (c:Nat) (l:List UInt8):MW:={ S with al:=a,cl:=c,l:=l }
theorem iJ (S:MW) (a a' : Option Addr) (c c' : Nat) (l l' : List UInt8):(S.lst a c l).lst a' c' l' = S.lst a' c' l':=rfl
theorem DX {w:World} {a:Option Addr} {x:UInt8} {l:List UInt8} (h:bW w a ((x::l).map gW)):∃b o,a=some ⟨b,o,none⟩∧w.cell? ⟨b,o,none⟩=some (gW x)∧bW w (some ⟨b,o+1,none⟩) (l.map gW):=by
 obtain⟨b,o,rfl,hc⟩:=h.at (by simp)
 exact⟨b,o,rfl,hc 0 _ rfl,fun i u hi=>⟨b,o+1,rfl,by
  have:=hc (i+1) u (by simpa using hi)
  rw[show o+1+i=o+(i+1) by omega];exact this⟩⟩
theorem bR.locT {w w' : World} {B b:Nat} {S:MW} (h:bR w B b S) {g:Nat} {cs:Array Value} {T:TypeId} (hk:aC w g cs T) (hT:T≠3∧T≠69∧T≠67) (hn:¬gM b S g) (hgB:B≤g) (hg:w.grownBy w' (some g)):bR w' B b S:=by
 have hne:∀ {a:Option Addr},oB a∈dH S→∀n c g',(Value.slice a n c).ownBlock=some g'→some g≠some g':=fun hm n c g' he e=>by
  cases e
  rw[gF] at he
  exact hn (.inr (by rw[←he];exact hm))
 have m:∀ {x:Option Nat} {l:List (Option Nat)},x∈x::l:=List.mem_cons_self
 refine⟨h.blk.grown hg (fun e=>hn (.inl (Option.some.inj e))),h.ge,⟨h.ma.fr.grown hg (hne (by simp[dH]) _ _),h.ma.sl.grown hg (hne (by simp[dH]) _ _),⟨h.ma.sw.b.grown hg (hne (by simp[dH]) _ _),h.ma.sw.q.grown hg (fun g' he=>by rw[h.n3] at he;cases he)⟩,⟨h.ma.dk.b.grown hg (hne (by simp[dH]) _ _),h.ma.dk.q.grown hg (hne (by simp[dH]) _ _)⟩,
  ⟨h.ma.st.own.grown hg (hne (by simp[dH]) _ _),fun i p hp=>ak (h.ma.st.each i p hp) hk hT.1 hg,h.ma.st.apart⟩,h.ma.ca.grown hg (hne (by simp[dH]) _ _),h.ma.sp.grown hg (hne (by simp[dH]) _ _),fun p hp=>⟨ak (h.ma.ps p hp).1 hk hT.2.1 hg,(h.ma.ps p hp).2.keep hk hT.2.2 hg⟩,h.ma.c64⟩,
  h.tt.grown hg (hne (by simp[dH]) _ _),h.rd.keep h.ra h.bs hg hgB,h.ra,h.n1,h.n2,h.n3⟩
def Kg (S:MW) (n:Int) (B b:Nat) (w:World) (r:Ending) (w' : World):Prop:=∃x a c l,r = .returned (.int .i64 x)∧bR w' B b (S.lst a c l)∧MS w b S w' (S.lst a c l)∧(0≤x∧x<256∧(x<n∨x=0))∧(S.l=[]→x=0∧l=[])
theorem cB (S:MW) (n:Int) (B b:Nat) (w:World) (h:bR w B b S) (hn : -9223372036854775808≤n∧n≤9223372036854775807) :
  Calls Try.prog 28 #[.pointer (some ⟨b,0,none⟩),.int .i64 n] w (Kg S n B b w):=by
 obtain⟨al,cl,l,H,ab,cb,T⟩:=S
 have hr:kD w al cl l.length (l.map gW):=h.rd
 have hra:∀a,al=some a→l.map gW≠[]→a.block<B:=h.ra
 have hc:=h.blk.cell
 unfold dR at hc
 dsimp only at hc
 have h':=Lib.hid h
 have hra':=Lib.hid hra
 go_enter Try.func28,Try.ntmps28
 cases l with
 | nil=>
  clear h hr hra
  go_wp2
  go_ret
  exact⟨0,al,cl,[],rfl,h'.out,MS.refl _ _ _,by omega,fun _=>⟨rfl,rfl⟩⟩
 | cons x l=>
  obtain⟨bl,ol,rfl,hcb,hrd⟩:=DX hr.rd
  have hrl:l.length+1≤cl:=by have:=hr.le;simpa using this
  have hrm:=Lib.hid hr.mx
  have hrd':=Lib.hid hrd
  have hblk:=h.blk
  clear h hr hra hrd
  unfold gW at hcb
  by_cases hn1:n<1
  ·go_wp2
   go_ret
   exact⟨0,_,cl,x::l,rfl,h'.out,MS.refl _ _ _,by omega,fun e=>(by cases e)⟩
  ·have hl1:(1:Int)≤((l.length+1:Nat):Int):=by omega
   have h1:=Lib.hid x.toNat_lt
   have hx0:Hid ((0:Int)≤(x.toNat:Int)%n∧(x.toNat:Int)%n<256∧((x.toNat:Int)%n<n∨(x.toNat:Int)%n=0)):=Lib.hid (by
    have h3:=Int.emod_nonneg (x.toNat:Int) (show n≠0 by omega)
    have h4:=Int.emod_lt_of_pos (x.toNat:Int) (show (0:Int)<n by omega)
    have h6:(x.toNat:Int)%n≤(x.toNat:Int):=by
     obtain⟨N,rfl⟩:=Int.eq_ofNat_of_zero_le (show 0≤n by omega)
     rw[←Int.natCast_emod]
     have:=Nat.mod_le x.toNat N
     omega
    have:=h1.out
    omega)
   have hxw:IntKind.i64.wrap (x.toNat:Int)=(x.toNat:Int):=IntWalk.i64_in _ (by have:=h1.out;omega)
   by_cases hcl:cl=1
   ·subst hcl
    obtain rfl:l=[]:=List.length_eq_zero_iff.1 (by omega)
    go_wp2_with (refine aA rfl _ _ _ rfl b 0 _ [.slice (some ⟨bl,ol,none⟩) 0 0] rfl rfl rfl _ _ hblk (by show 0+1≤13;omega) (by kernel_rfl) (fun u hu=>by cases List.mem_singleton.1 hu;rfl) ?_)
    intro w1 hb1 hg1
    clear hc hcb
    go_wp2
    go_ret
    have hs:kD w (some ⟨bl,ol,none⟩) 0 0 (([]:List UInt8).map gW):=⟨Nat.le_refl _,Nat.zero_le _,fun e=>(by cases e),bW.nil⟩
    exact⟨_,some ⟨bl,ol,none⟩,0,[],rfl,h'.out.putL hs (fun a e _=>by cases e;exact hra'.out _ rfl (by simp)) hb1 hg1,(MS.refl w b _).put hg1 (.inl rfl) fun x hx => .inl hx,hx0.out,fun e=>(by cases e)⟩
   ·go_wp2_with (refine aA rfl _ _ _ rfl b 0 _ [.slice (some ⟨bl,ol+1,none⟩) l.length (cl-1)] rfl rfl rfl _ _ hblk (by show 0+1≤13;omega) (by kernel_rfl) (fun u hu=>by cases List.mem_singleton.1 hu;rfl) ?_)
    intro w1 hb1 hg1
    clear hc hcb
    go_wp2
    go_ret
    have hs:kD w (some ⟨bl,ol+1,none⟩) (cl-1) l.length (l.map gW):=⟨by omega,by have:=hrm.out;omega,fun e=>(by cases e),hrd'.out⟩
    exact⟨_,some ⟨bl,ol+1,none⟩,cl-1,l,rfl,h'.out.putL hs (fun a e _=>by cases e;exact hra'.out ⟨bl,ol,none⟩ rfl (by simp)) hb1 hg1,(MS.refl w b _).put hg1 (.inl rfl) fun x hx => .inl hx,hx0.out,fun e=>(by cases e)⟩
def Kr (S:MW) (B b:Nat) (w:World) (r:Ending) (w' : World):Prop:=∃P a c l,r = .returned (.agg (dF P))∧bR w' B b (S.lst a c l)∧MS w b S w' (S.lst a c l)
theorem nH (S:MW) (B b:Nat) (w:World) (h:bR w B b S) :
  Calls Try.prog 31 #[.pointer (some ⟨b,0,none⟩)] w (Kr S B b w):=by
 have hBs:=Lib.hid h.bs
 go_enter Try.func31,Try.ntmps31
 go_upto_region 3 with (fail)
 refine pz (fun W=>Code.wp _ _ _ _ W) fun w1 hb1 bx1 rx1 hs1 => ?_
 have h1:=h.below hb1
 have s1:=(MS.refl w b S).below hb1
 have hn0:=Lib.hid (h.new (Nat.le_refl _))
 have hn1:=Lib.hid (h.new (Nat.le_succ _))
 clear h
 go_loopw [5] (fun k wr => ∃(q:Nat) (P:Page) (a:Option Addr) (c:Nat) (l:List UInt8),q≤8∧k = .int .i64 q∧bR wr B b (S.lst a c l)∧MS w b S wr (S.lst a c l)∧aC wr w.heap.size (dF zPg) 50∧aC wr (w.heap.size+1) (dF P) 50) (fun k _=>8-(intOf k).toNat)
 case atStart=>exact⟨0,zPg,S.al,S.cl,S.l,Nat.zero_le _,rfl,h1,s1,bx1,rx1⟩
 case round=>
  clear h1 s1 bx1 rx1 hb1 hs1
  obtain⟨q,P,a,c,l,hq,rfl,hm,hs,bx,rx⟩:=hrel
  have hsz:w.heap.size+2≤wr.heap.size:=rx.lt
  by_cases hq8:q<8
  ·have hqi:(q:Int)<8:=by omega
   go_wp2_with fail
   refine (cB _ 4 B b _ hm (by omega)).mono ?_
   rintro r w2 ⟨x,a2,c2,l2,rfl,hm2,hs2,hx,_⟩
   rw[iJ] at hm2 hs2
   have bx2:=hs2.blkN bx hn0.out
   have rx2:=hs2.blkN rx hn1.out
   have hst:=hs.trans hs2
   obtain⟨x,rfl⟩:∃y:UInt8,x=(y.toNat:Int):=⟨UInt8.ofNat x.toNat,by rw[UInt8.toNat_ofNat'];omega⟩
   have hx2:((x.toNat:Nat):Int)<256:=hx.2.1
   clear hm hs bx rx hs2 hx
   go_wp2_with (refine aA rfl _ _ _ rfl (w.heap.size+1) q _ [.int .u8 x.toNat] rfl rfl rfl _ _ rx2 (by show q+1≤8;omega) (by kernel_rfl) (fun u hu=>by cases List.mem_singleton.1 hu;rfl) ?_)
   intro w3 rx3 hg3
   rw[lG,tF _ q hq8] at rx3
   have hm3:=hm2.locT rx2 (by decide) hn1.out (by have:=hBs.out;omega) hg3
   have hs3:=hst.loc hg3 (Nat.le_succ _)
   have bx3:=bx2.grown hg3 (fun e=>by have:=Option.some.inj e;omega)
   clear hm2 hst bx2 rx2 hg3
   go_wp2
   go_roundw
   case rel=>exact⟨q+1,_,a2,c2,l2,by omega,by go_num,hm3,hs3,bx3,rx3⟩
   case measure=>simp[intOf];omega
  ·have hqi:¬(q:Int)<8:=by omega
   go_wp2_with (first | (refine ax _ _ rfl (w.heap.size+1) 0 rfl rfl _ rx.rd _ Try.underlying50 rfl psize ?_) | (refine aB rfl _ _ _ rfl w.heap.size (dF P) rfl rfl _ _ bx rfl psize (dD _) ?_))
   intro w3 bx3 hg3
   go_wp2
   refine bodyPost_ret (v:=.agg (dF P)) (bU Try.results31 _ _ w.heap.size _ _ _ rfl bx3 Try.underlying50 rfl psize) rfl ?_
   exact⟨P,a,c,l,rfl,hm.locT bx (by decide) hn0.out (by have:=hBs.out;omega) hg3,hs.loc hg3 (Nat.le_refl _)⟩
def MW.frs (S:MW) (fs:List Fr):MW:={ S with H:={ S.H with m:=⟨fs,S.H.m.hand⟩ } }
def JI (S:MW) (f:Fr) (B b:Nat) (w:World) (r:Ending) (w' : World):Prop:=∃x a c l fs,r = .returned (.int .i64 x)∧bR w' B b ((S.lst a c l).frs fs)∧MS w b S w' ((S.lst a c l).frs fs) ∧
   ((x = -1∧fs=S.H.m.fs)∨∃j:Nat,x=j∧j<S.H.m.fs.length∧(dL S.H.ma j).r=0∧fs=S.H.m.fs.set j f)
theorem vo (S:MW) (f:Fr) (B b:Nat) (w:World) (h:bR w B b S) (hz:S.H.m.fs.length≤1000) :
  Calls Try.prog 108 #[.pointer (some ⟨b,0,none⟩),.agg (pK f)] w (JI S f B b w):=by
 go_enter Try.func108,Try.ntmps108
 go_upto_region 1 with (fail)
 refine eO (fun W=>Code.wp _ _ _ _ W) fun w1 hb1 bx1 hs1 => ?_
 have h1:=h.below hb1
 have s1:=(MS.refl w b S).below hb1
 have hn0:=Lib.hid (h.new (Nat.le_refl _))
 have hBs:=Lib.hid h.bs
 have hc:=h1.blk.cell
 unfold dR at hc
 clear h hb1
 go_wp2_with fail
 refine (cB _ _ B b _ h1 (by omega)).mono ?_
 rintro r w2 ⟨x,a2,c2,l2,rfl,hm2,hs2,hx,_⟩
 have bx2:=hs2.blkN bx1 hn0.out
 have hst:=s1.trans hs2
 clear h1 s1 hc hs2 bx1 hs1
 go_upto_region 4 with (fail)
 generalize hnn:S.H.m.fs.length=n at *
 go_loopw [20] (fun k wr => ∃q:Nat,q≤n∧k = .int .i64 q∧wr=w2) (fun k _=>n-(intOf k).toNat)
 case atStart=>exact⟨0,Nat.zero_le _,rfl,rfl⟩
 case round=>
  obtain⟨q,hq,rfl,rfl⟩:=hrel
  have hc:=hm2.blk.cell
  unfold dR at hc
  dsimp only[MW.lst] at hc
  rw[hnn] at hc
  by_cases hqn:q<n
  ·have hqi:(q:Int)<(n:Int):=by omega
   obtain⟨X,rfl⟩:=Int.eq_ofNat_of_zero_le hx.1
   have hx1:(X:Int)<256:=hx.2.1
   obtain⟨j,hjn,hj⟩:∃j:Nat,j<n∧((X:Int)+(q:Int))%(n:Int)=j:=⟨(X+q)%n,Nat.mod_lt _ (by omega),by rw[←Int.natCast_add,←Int.natCast_emod]⟩
   have hji:(j:Int)<(n:Int):=by omega
   obtain⟨g,off,cap,cur,hv,hgB,hg,hgs,hgc,hgw⟩:=hm2.ma.fr.put eu (by decide) j (by show j<S.H.m.fs.length;omega)
   have haf:S.H.af=some ⟨g,off,none⟩:=(Value.slice.inj hv).1
   rw[haf] at hc
   have c8:wr.cell? ⟨g,off+j*13+8,none⟩=some (.int .i64 (S.H.m.fs[j]'(by omega)).r):=hgc 8 _ rfl
   have hfj:Hid (dL S.H.ma j=S.H.m.fs[j]'(by omega)):=Lib.hid (by
    unfold dL
    show S.H.m.fs.getD j fr0=_
    rw[List.getD_eq_getElem?_getD,List.getElem?_eq_getElem (by omega)];rfl)
   clear hv
   have hgw':=Lib.hid hgw
   have hgc':=Lib.hid hgc
   clear hgw hgc
   generalize S.H.m.fs[j]'(by omega)=Y at c8 hfj
   by_cases hr:Y.r=0
   ·rw[hr] at c8
    have hne:g≠w.heap.size:=fun e=>hn0.out (.inr (by rw[←e];simp[dH,haf,oB];left;rfl))
    go_upto_region 8 with (fail)
    refine aF 9 [_,_,_,_,_,_,.v (.int .i64 (j:Int)),_,_] (Gk rfl (Gk rfl (Gf b 1 rfl rfl (Gf b 1 rfl rfl (Gf b 1 rfl rfl (Gl hm2.blk (V:=.slice (some ⟨g,off,none⟩) n S.H.cf) (by simp[dR,MW.lst,haf,hnn]) rfl rfl rfl rfl (all_cons ?_ (Gr (.agg #[.int .u8 f.p[0].toNat,.int .u8 f.p[1].toNat,.int .u8 f.p[2].toNat,.int .u8 f.p[3].toNat,.int .u8 f.p[4].toNat,.int .u8 f.p[5].toNat,.int .u8 f.p[6].toNat,.int .u8 f.p[7].toNat,.int .i64 f.r,.bool f.u,.bool f.d,.int .i64 f.f,.int .i64 f.i]) (fun ρ y W hb hKn=>(bM rfl (az rfl hKn) (bK (bx2.ext hb) 0 13) Try.underlying59 rfl (by kernel_rfl))) rfl rfl (Gr (.pointer (some ⟨g,off+j*13,none⟩)) (fun ρ y W hb hKn=>(aT rfl (az rfl hKn) (az rfl hKn) hjn Try.underlying25 frame_size)) rfl rfl (all_nil)))))))))) (fun _=>rfl) rfl ?_
    ·intro ρ y W hw hn hb hd;have E8:ρ (.tmp 8) = .int .i64 (j:Int):=(hn (.tmp 8) rfl).trans (by show Value.int IntKind.i64 (((X:Int)+(q:Int))%(n:Int))=_;rw[hj])
     refine aj (.int .i64 (j:Int)) (ah rfl) (run_move (.inl rfl) E8) rfl
    intro y W3 hbW3 _
    have hm3:=hm2.below hbW3
    have hg3:=hg.ext hbW3
    have hs3:=hst.below hbW3
    clear hm2 bx2 hst hbW3 hg hc c8
    go_wp2_with (refine aA rfl _ _ _ rfl g (off+j*13) _ (mD f) rfl rfl rfl _ _ hg3 (by rw[eu];exact hgs) (by kernel_rfl) (aZ (mi f)) ?_)
    intro w4 h4 hg4
    have ho4:=hgw'.out _ f h4
    have hm4:=hm3.putF hg3 hgB hg4 (fs:=S.H.m.fs.set j f) (by simp[MW.lst]) (by simpa[MW.lst] using ho4)
    have hs4:=hs3.put hg4 (H':=(S.lst a2 c2 l2).frs (S.H.m.fs.set j f)) (.inr (by simp[dH,MW.lst,haf,oB];left;rfl)) (fun x hx => .inl hx)
    clear hm3 hs3 hg3 hg4 h4 ho4
    go_wp2
    go_ret
    exact⟨j,a2,c2,l2,_,rfl,hm4,hs4,.inr ⟨j,rfl,by omega,by rw[hfj.out];exact hr,rfl⟩⟩
   ·go_wp2
    go_roundw
    case rel=>exact⟨q+1,by omega,by go_num,by first | rfl | trivial⟩
    case measure=>simp[intOf];omega
  ·have hqi:¬(q:Int)<(n:Int):=by omega
   go_wp2
   go_ret
   exact⟨-1,a2,c2,l2,S.H.m.fs,rfl,hm2,hst,.inl ⟨rfl,rfl⟩⟩
def jJ (f s b:Int):Ma:=if (0≤f∧f≤40)∧(0≤s∧s≤60)∧(0≤b∧b≤80) then ⟨uI f,yH s,ny s,ny b,⟨[],b⟩,[],[⟨true,[],zTb⟩]⟩ else zMa
def rO (f s b:Int):Int:=if (0≤f∧f≤40)∧(0≤s∧s≤60)∧(0≤b∧b≤80) then 0 else 4
def noH:MH:=⟨none,0,noM,none,0,[],none,0,none,0,⟨[],[]⟩,none,0,none,0,⟨[],[]⟩,none,0,[],0,none,0,[],none,0,[]⟩
theorem xh (w:World) (B:Nat):sG w B noH:=
 ⟨Own.nil _ _ _ _,Own.nil _ _ _ _,fJ.nil _ _,fJ.nil _ _,⟨Own.nil _ _ _ _,fun i p hp=>by simp[noH] at hp,fun i j p q _ hp=>by simp[noH] at hp⟩,Own.nil _ _ _ _,Own.nil _ _ _ _,fun p hp=>by simp[noH] at hp,by decide⟩
def nTs:Vector Value 8:=⟨#[.slice none 0 0,.slice none 0 0,.slice none 0 0,.slice none 0 0,.slice none 0 0,.slice none 0 0,.slice none 0 0,.slice none 0 0],rfl⟩
def newP:PS:=⟨true,none,0,[],nTs,zTb⟩
theorem Ef (w:World) (B:Nat) (hB:B≤w.heap.size):Own (w.alloc (.cells (lu newP) 65)) B 65 10 (.slice (some ⟨w.heap.size,0,none⟩) 1 1) 1 ([newP].flatMap lS):=
 ⟨rfl,.inr ⟨w.heap.size,0,1,lu newP,rfl,hB,aC.new _ _ _,Nat.le_refl _,by decide,by decide,fun j u h=>by
  rw[Nat.zero_add,←Array.getElem?_toList]
  rw[show [newP].flatMap lS=(lu newP).toList from by rw[List.flatMap_cons,List.flatMap_nil,List.append_nil];rfl] at h
  exact h⟩⟩
theorem zu (f s b:Int) (w:World) (hb64 : -9223372036854775808≤b∧b≤9223372036854775807) :
  Calls Try.prog 18 #[.agg #[.int .i64 f,.int .i64 s,.int .i64 b]] w fun r w' => ∃H' : MH,r = .returned (.tuple #[.agg (bP H'),.int .i64 (rO f s b)])∧sG w' w.heap.size H'∧H'.ma=jJ f s b∧Below w.heap.size w w':=by
 go_enter Try.func18,Try.ntmps18
 have bx0:=aC.new w #[.int .i64 f,.int .i64 s,.int .i64 b] 23
 have h1:Below w.heap.size w (w.alloc (.cells #[.int .i64 f,.int .i64 s,.int .i64 b] 23)):=(Below.refl _ _).alloc (Nat.le_refl _) _
 have h2:Below (w.alloc (.cells #[.int .i64 f,.int .i64 s,.int .i64 b] 23)).heap.size (w.alloc (.cells #[.int .i64 f,.int .i64 s,.int .i64 b] 23)) ((w.alloc (.cells #[.int .i64 f,.int .i64 s,.int .i64 b] 23)).alloc (.cells (bP noH) 40)):=(Below.refl _ _).alloc (Nat.le_refl _) _
 have hb0:=ag h1 h2
 have bx1:=bx0.ext h2
 have rx1:=aC.new (w.alloc (.cells #[.int .i64 f,.int .i64 s,.int .i64 b] 23)) (bP noH) 40
 rw[show (w.alloc (.cells #[.int .i64 f,.int .i64 s,.int .i64 b] 23)).heap.size=w.heap.size+1 from Array.size_push _] at rx1
 clear h1 h2
 go_wp2_with fail
 refine (FB f _).mono ?_
 rintro r w1 ⟨v1,rfl,ho1,hb1⟩
 have bx1:=bx1.ext hb1
 have rx1:=rx1.ext hb1
 have hbr1:=ag hb0 hb1
 have hfr:=aC.new w1 #[.slice none 0 0,.int .i64 0] 27
 have hba:Below w1.heap.size w1 (w1.alloc (.cells #[.slice none 0 0,.int .i64 0] 27)):=(Below.refl _ _).alloc (Nat.le_refl _) _
 have bx2:=bx1.ext hba
 have rx2:=rx1.ext hba
 have hbr2:=ag hbr1 hba
 have p1:=(ho1.below hba)
 obtain⟨a1,c1,rfl,_⟩:=p1.rd
 have hl1:=rx1.lt
 have hl0:=hb0.size
 clear hb0 hb1 hba ho1 hbr1 bx1
 go_wp2_with (refine aB rfl _ _ _ rfl w1.heap.size #[.slice a1 (uI f).fs.length c1,.int .i64 0] rfl rfl _ _ hfr rfl mem_size (qw _ _ _ _) ?_)
 intro w2 mb2 hg2
 have bx3:=bx2.grown hg2 (fun e=>by have:=Option.some.inj e;omega)
 have rx3:=rx2.grown hg2 (fun e=>by have:=Option.some.inj e;omega)
 have hbr3:=hbr2.grown hg2 hbr2.size (fun k hk=>by cases hk;omega)
 have q1:=ak p1 hfr (by decide) hg2
 have hcs:w2.cell? ⟨w.heap.size,1,none⟩=some (.int .i64 s):=by rw[bx3.cell];rfl
 clear bx2 rx2 hbr2 hfr p1 hg2
 by_cases hf:0≤f∧f≤40
 ·have e1:BX f=0:=if_pos hf
  rw[e1]
  go_wp2_with fail
  refine (Dk s _).mono ?_
  rintro r w3 ⟨v3,rfl,ho3,hb3⟩
  have bx4:=bx3.ext hb3
  have rx4:=rx3.ext hb3
  have mb4:=mb2.ext hb3
  have p1:=q1.below hb3
  have hl3:=hb3.size
  have hl2:=mb2.lt
  have hbr4:=ag hbr3 hb3
  obtain⟨a3,c3,rfl,_⟩:=ho3.rd
  clear bx3 rx3 mb2 q1 hb3 hbr3 hcs
  by_cases hs:0≤s∧s≤60
  ·have e2:xP s=0:=if_pos hs
   rw[e2]
   have hcs:w3.cell? ⟨w.heap.size,1,none⟩=some (.int .i64 s):=by rw[bx4.cell];rfl
   go_wp2_with fail
   refine (yA s _).mono ?_
   rintro r w4 ⟨vb,vq,rfl,ho4,hb4⟩
   have hba:Below w4.heap.size w4 (w4.alloc (.cells #[.slice none 0 0,.slice none 0 0] 33)):=(Below.refl _ _).alloc (Nat.le_refl _) _
   have hfr:=aC.new w4 #[.slice none 0 0,.slice none 0 0] 33
   have hl4:=hb4.size
   have bx5:=(bx4.ext hb4).ext hba
   have rx5:=(rx4.ext hb4).ext hba
   have mb5:=(mb4.ext hb4).ext hba
   have q1:=(p1.below hb4).below hba
   have q3:=(ho3.below hb4).below hba
   have q4:fJ _ _ _ _ _:=⟨ho4.b.below hba,ho4.q.below hba⟩
   have hbr5:=ag (ag hbr4 hb4) hba
   obtain⟨ab,cb,rfl,_⟩:=q4.b.rd
   obtain⟨aq,cq,rfl,_⟩:=q4.q.rd
   have hw4:=(mb4.ext hb4).lt
   clear bx4 rx4 mb4 p1 ho3 ho4 hb4 hba hbr4 hcs
   go_wp2_with (refine aB rfl _ _ _ rfl w4.heap.size #[.slice ab (ny s).blocks.length cb,.slice aq (ny s).queue.length cq] rfl rfl _ _ hfr rfl disk_size (qW _ _ _ _ _ _) ?_)
   intro w5 sb5 hg5
   have bx6:=bx5.grown hg5 (fun e=>by have:=Option.some.inj e;omega)
   have rx6:=rx5.grown hg5 (fun e=>by have:=Option.some.inj e;omega)
   have mb6:=mb5.grown hg5 (fun e=>by have:=Option.some.inj e;omega)
   have hbr6:=hbr5.grown hg5 hbr5.size (fun k hk=>by cases hk;omega)
   have p1:=ak q1 hfr (by decide) hg5
   have p3:=ak q3 hfr (by decide) hg5
   have p4:=q4.keep hfr (by decide) (by decide) hg5
   have hcb:w5.cell? ⟨w.heap.size,2,none⟩=some (.int .i64 b):=by rw[bx6.cell];rfl
   clear bx5 rx5 mb5 q1 q3 q4 hg5 hfr hbr5
   go_wp2_with fail
   refine (yA b _).mono ?_
   rintro r w6 ⟨vb,vq,rfl,ho6,hb6⟩
   have hba:Below w6.heap.size w6 (w6.alloc (.cells #[.slice none 0 0,.slice none 0 0] 33)):=(Below.refl _ _).alloc (Nat.le_refl _) _
   have hfr:=aC.new w6 #[.slice none 0 0,.slice none 0 0] 33
   have hl6:=hb6.size
   have hw5:=sb5.lt
   have hw6:=(sb5.ext hb6).lt
   have bx7:=(bx6.ext hb6).ext hba
   have rx7:=(rx6.ext hb6).ext hba
   have mb7:=(mb6.ext hb6).ext hba
   have sb7:=(sb5.ext hb6).ext hba
   have q1:=(p1.below hb6).below hba
   have q3:=(p3.below hb6).below hba
   have q4:fJ _ _ _ _ _:=⟨(p4.b.below hb6).below hba,(p4.q.below hb6).below hba⟩
   have q6:fJ _ _ _ _ _:=⟨ho6.b.below hba,ho6.q.below hba⟩
   have hbr7:=ag (ag hbr6 hb6) hba
   obtain⟨db,dcb,rfl,_⟩:=q6.b.rd
   obtain⟨dq,dcq,rfl,_⟩:=q6.q.rd
   clear bx6 rx6 mb6 sb5 p1 p3 p4 ho6 hb6 hba hbr6 hcb
   go_wp2_with (refine aB rfl _ _ _ rfl w6.heap.size #[.slice db (ny b).blocks.length dcb,.slice dq (ny b).queue.length dcq] rfl rfl _ _ hfr rfl disk_size (qW _ _ _ _ _ _) ?_)
   intro w7 db7 hg7
   have bx8:=bx7.grown hg7 (fun e=>by have:=Option.some.inj e;omega)
   have rx8:=rx7.grown hg7 (fun e=>by have:=Option.some.inj e;omega)
   have mb8:=mb7.grown hg7 (fun e=>by have:=Option.some.inj e;omega)
   have sb8:=sb7.grown hg7 (fun e=>by have:=Option.some.inj e;omega)
   have hbr8:=hbr7.grown hg7 hbr7.size (fun k hk=>by cases hk;omega)
   have p1:=ak q1 hfr (by decide) hg7
   have p3:=ak q3 hfr (by decide) hg7
   have p4:=q4.keep hfr (by decide) (by decide) hg7
   have p6:=q6.keep hfr (by decide) (by decide) hg7
   have hcb:w7.cell? ⟨w.heap.size,2,none⟩=some (.int .i64 b):=by rw[bx8.cell];rfl
   clear bx7 rx7 mb7 sb7 q1 q3 q4 q6 hg7 hfr hbr7
   by_cases hk:0≤b∧b≤80
   ·have e3:Ce b=0:=if_pos hk
    rw[e3]
    go_wp2_with fail
    refine (Ey b _).mono ?_
    rintro r w8 ⟨rfl,hb8⟩
    have e4:Ie b=b:=if_neg (by omega)
    have e5:newE b=0:=if_neg (by omega)
    rw[e4,e5]
    have hba:Below w8.heap.size w8 (w8.alloc (.cells #[.slice none 0 0,.int .i64 0] 36)):=(Below.refl _ _).alloc (Nat.le_refl _) _
    have hfr:=aC.new w8 #[.slice none 0 0,.int .i64 0] 36
    have hl8:=hb8.size
    have hw7:=db7.lt
    have hw8:=(db7.ext hb8).lt
    have rx9:=(rx8.ext hb8).ext hba
    have mb9:=(mb8.ext hb8).ext hba
    have sb9:=(sb8.ext hb8).ext hba
    have db9:=(db7.ext hb8).ext hba
    have q1:=(p1.below hb8).below hba
    have q3:=(p3.below hb8).below hba
    have q4:fJ _ _ _ _ _:=⟨(p4.b.below hb8).below hba,(p4.q.below hb8).below hba⟩
    have q6:fJ _ _ _ _ _:=⟨(p6.b.below hb8).below hba,(p6.q.below hb8).below hba⟩
    have hbr9:=ag (ag hbr8 hb8) hba
    clear bx8 rx8 mb8 sb8 db7 p1 p3 p4 p6 hb8 hba hbr8 hcb
    go_wp2_with (refine aB rfl _ _ _ rfl w8.heap.size #[.slice none 0 0,.int .i64 b] rfl rfl _ _ hfr rfl store_size (qw _ _ _ _) ?_)
    intro w9 tb9 hg9
    have rx10:=rx9.grown hg9 (fun e=>by have:=Option.some.inj e;omega)
    have mb10:=mb9.grown hg9 (fun e=>by have:=Option.some.inj e;omega)
    have sb10:=sb9.grown hg9 (fun e=>by have:=Option.some.inj e;omega)
    have db10:=db9.grown hg9 (fun e=>by have:=Option.some.inj e;omega)
    have hbr10:=hbr9.grown hg9 hbr9.size (fun k hk=>by cases hk;omega)
    have p1:=ak q1 hfr (by decide) hg9
    have p3:=ak q3 hfr (by decide) hg9
    have p4:=q4.keep hfr (by decide) (by decide) hg9
    have p6:=q6.keep hfr (by decide) (by decide) hg9
    clear rx9 mb9 sb9 db9 q1 q3 q4 q6 hg9 hfr hbr9
    obtain⟨M,hM⟩:∃M:MH,Hid (M=⟨a1,c1,⟨(uI f).fs,0⟩,a3,c3,yH s,ab,cb,aq,cq,ny s,db,dcb,dq,dcq,ny b,none,0,[],b,none,0,[],some ⟨w9.heap.size,0,none⟩,1,[newP]⟩):=⟨_,Lib.hid rfl⟩
    have hbs:Below w9.heap.size w9 (w9.alloc (.cells (lu newP) 65)):=(Below.refl _ _).alloc (Nat.le_refl _) _
    have rx11:=rx10.ext hbs
    have q1:=p1.below hbs
    have q3:=p3.below hbs
    have q4:fJ _ _ _ _ _:=⟨p4.b.below hbs,p4.q.below hbs⟩
    have q6:fJ _ _ _ _ _:=⟨p6.b.below hbs,p6.q.below hbs⟩
    have q7:=Ef w9 w.heap.size hbr10.size
    have hbr11:=ag hbr10 hbs
    have hw9:=tb9.lt
    have hw0:=rx10.lt
    clear p1 p3 p4 p6 hbs
    go_wp2_with (first | (refine ax _ _ rfl w1.heap.size 0 rfl rfl _ mb10.rd _ Try.underlying27 rfl mem_size ?_) | (refine ax _ _ rfl w4.heap.size 0 rfl rfl _ sb10.rd _ Try.underlying33 rfl disk_size ?_) | (refine ax _ _ rfl w6.heap.size 0 rfl rfl _ db10.rd _ Try.underlying33 rfl disk_size ?_) | (refine ax _ _ rfl w8.heap.size 0 rfl rfl _ tb9.rd _ Try.underlying36 rfl store_size ?_) | (refine aB rfl _ _ _ rfl (w.heap.size+1) #[.slice a1 (uI f).fs.length c1,.int .i64 0,.slice a3 (yH s).length c3,.slice ab (ny s).blocks.length cb,.slice aq (ny s).queue.length cq,.slice db (ny b).blocks.length dcb,.slice dq (ny b).queue.length dcq,.slice none 0 0,.int .i64 b,.slice none 0 0,.slice (some ⟨w9.heap.size,0,none⟩) 1 1] rfl rfl _ _ rx11 rfl mach_size (by simp[Value.oneCell']) ?_))
    intro we hre hge
    have hre' : aC we (w.heap.size+1) (bP M) 40:=by rw[hM.out];exact hre
    have hbre:=hbr11.grown hge hbr11.size (fun k hk=>by cases hk;omega)
    have hown:sG we w.heap.size M:=by
     rw[hM.out]
     refine⟨(ak q1 rx11 (by decide) hge).mono hl0,(ak q3 rx11 (by decide) hge).mono (by omega),?_,?_,⟨Own.nil _ _ _ _,fun i p hp=>by simp at hp,fun i j p q _ hp=>by simp at hp⟩,Own.nil _ _ _ _,ak q7 rx11 (by decide) hge,fun p hp => ?_,hb64⟩
     ·exact (q4.keep rx11 (by decide) (by decide) hge).mono (by omega)
     ·exact (q6.keep rx11 (by decide) (by decide) hge).mono (by omega)
     ·rw[List.mem_singleton.1 hp]
      exact⟨Own.nil _ _ _ _,zR _ _⟩
    clear hre rx10 rx11 mb10 sb10 db10 tb9 q1 q3 q4 q6 q7 hge hbr10 hbr11
    go_wp2
    refine bodyPost_ret (v:=.tuple #[.agg (bP M),.int .i64 0]) (iX Try.results18 _ _ (w.heap.size+1) _ _ _ _ rfl rfl hre' Try.underlying40 rfl mach_size) rfl ?_
    refine⟨M,by rw[show rO f s b=0 from if_pos ⟨hf,hs,hk⟩],hown,?_,hbre⟩
    rw[show jJ f s b=_ from if_pos ⟨hf,hs,hk⟩,hM.out]
    unfold MH.ma
    rw[show uI f=⟨List.replicate f.toNat frZ,0⟩ from if_pos hf]
    rfl
   ·have e3:Ce b=4:=if_neg hk
    rw[e3]
    go_wp2_with (refine aB rfl _ _ _ rfl (w.heap.size+1) (bP noH) rfl rfl _ _ rx8 rfl mach_size (jN noH) ?_)
    intro we hre hge
    have hbre:=hbr8.grown hge hbr8.size (fun k hk=>by cases hk;omega)
    go_wp2
    refine bodyPost_ret (v:=.tuple #[.agg (bP noH),.int .i64 4]) (iX Try.results18 _ _ (w.heap.size+1) _ _ _ _ rfl rfl hre Try.underlying40 rfl mach_size) rfl ?_
    exact⟨noH,by rw[show rO f s b=4 from if_neg (fun h=>hk h.2.2)],xh _ _,by rw[show jJ f s b=zMa from if_neg (fun h=>hk h.2.2)];rfl,hbre⟩
  ·have e2:xP s=4:=if_neg hs
   rw[e2]
   go_wp2_with (refine aB rfl _ _ _ rfl (w.heap.size+1) (bP noH) rfl rfl _ _ rx4 rfl mach_size (jN noH) ?_)
   intro we hre hge
   have hbre:=hbr4.grown hge hbr4.size (fun k hk=>by cases hk;omega)
   go_wp2
   refine bodyPost_ret (v:=.tuple #[.agg (bP noH),.int .i64 4]) (iX Try.results18 _ _ (w.heap.size+1) _ _ _ _ rfl rfl hre Try.underlying40 rfl mach_size) rfl ?_
   exact⟨noH,by rw[show rO f s b=4 from if_neg (fun h=>hs h.2.1)],xh _ _,by rw[show jJ f s b=zMa from if_neg (fun h=>hs h.2.1)];rfl,hbre⟩
 ·have e1:BX f=4:=if_neg hf
  rw[e1]
  go_wp2_with (refine aB rfl _ _ _ rfl (w.heap.size+1) (bP noH) rfl rfl _ _ rx3 rfl mach_size (jN noH) ?_)
  intro we hre hge
  have hbre:=hbr3.grown hge hbr3.size (fun k hk=>by cases hk;omega)
  go_wp2
  refine bodyPost_ret (v:=.tuple #[.agg (bP noH),.int .i64 4]) (iX Try.results18 _ _ (w.heap.size+1) _ _ _ _ rfl rfl hre Try.underlying40 rfl mach_size) rfl ?_
  exact⟨noH,by rw[show rO f s b=4 from if_neg (fun h=>hf h.1)],xh _ _,by rw[show jJ f s b=zMa from if_neg (fun h=>hf h.1)];rfl,hbre⟩
theorem FD {w:World} {b o:Nat} {xs ys:List Value} (h:bW w (some ⟨b,o,none⟩) (xs++ys)):bW w (some ⟨b,o,none⟩) xs:=fun i u hi=>h i u (by
 rw[List.getElem?_append_left (List.getElem?_eq_some_iff.1 hi).1];exact hi)
theorem Gz (x:Fr):∃ys,mD x=sI x.p++ys:=⟨_,rfl⟩
theorem CO {l:List Cc} {q:Nat} {c:Cc} {f i:Int} (hc:l[q]?=some c) (hno:∀d∈l.take q,¬(d.f=f∧d.i=i)) (hy:c.f=f∧c.i=i):l.find? (fun c=>decide (c.f=f)&&decide (c.i=i))=some c:=by
 rw[←List.take_append_drop q l,List.find?_append,List.find?_eq_none.2 (fun d hd=>by
  have:=hno d hd
  simp only[Bool.and_eq_true,decide_eq_true_eq]
  exact this)]
 rw[List.drop_eq_getElem_cons (List.getElem?_eq_some_iff.1 hc).1,(List.getElem?_eq_some_iff.1 hc).2,List.find?_cons,hy.1,hy.2]
 simp
theorem uH {l:List Cc} {f i:Int} (hno:∀d∈l,¬(d.f=f∧d.i=i)):l.find? (fun c=>decide (c.f=f)&&decide (c.i=i))=none:=
 List.find?_eq_none.2 (fun d hd=>by
  have:=hno d hd
  simp only[Bool.and_eq_true,decide_eq_true_eq]
  exact this)
theorem lK (H:MH) (f i:Int) (w:World) (h:sV w H) (hz:H.ca.length≤1000∧∀f∈H.ma.st.fs,f.b.length≤1000) (hck:∀c∈H.ca,0≤c.k∧c.k<H.m.fs.length) (hf:0≤f∧f<H.fi.length) (hi:0≤i∧i<(fileAt H.ma.st f).b.length) :
  Calls Try.prog 62 #[.agg (bP H),.int .i64 f,.int .i64 i] w fun r w'=>r = .returned (.agg (dF (dz H.ma f i)))∧Below w.heap.size w w':=by
 have z7:H.ca.length≤1000:=hz.1
 go_enter Try.func62,Try.ntmps62
 go_upto_region 1 with (fail)
 refine pz (fun W=>Code.wp _ _ _ _ W) fun w1 hb0 bx1 rx1 hs1 => ?_
 clear hs1
 have hcb:=bx1.cell
 unfold bP at hcb
 go_upto_region 2 with (fail)
 clear hcb
 go_loopw [16] (fun k wr => ∃q:Nat,q≤H.ca.length∧k = .int .i64 q∧Below w.heap.size w wr∧aC wr w.heap.size (bP H) 40∧aC wr (w.heap.size+1) (dF zPg) 50∧Hid (∀d∈H.ca.take q,¬(d.f=f∧d.i=i))) (fun k _=>H.ca.length-(intOf k).toNat)
 case atStart=>exact⟨0,Nat.zero_le _,rfl,hb0,bx1,rx1,Lib.hid (by simp)⟩
 case round=>
  clear hb0 bx1 rx1
  obtain⟨q,hq,rfl,hbr,bx,rx,hno⟩:=hrel
  by_cases hql:q<H.ca.length
  ·obtain⟨bc,oc,hca,hrd⟩:=sM (h.below hbr).ca.rd q hql
   obtain⟨c,hc⟩:∃c,H.ca[q]?=some c:=⟨_,List.getElem?_eq_getElem hql⟩
   rw[show H.ca[q]=c from (List.getElem?_eq_some_iff.1 hc).2] at hrd
   have hqi:(q:Int)<(H.ca.length:Int):=by omega
   have hck1:=hck c (List.mem_of_getElem? hc)
   have hc':=Lib.hid hc
   clear hc
   rw[hca]
   go_wp2_with (first | (refine ax _ _ rfl bc (oc+q*3) rfl rfl _ hrd _ Try.underlying85 rfl cached_size ?_) | (refine aD rfl _ _ _ rfl (qN c) rfl rfl rfl cached_size (lU c) ?_))
   intro w3 hb3 cx3
   have hbr3:=ag hbr hb3
   have bx3:=bx.ext hb3
   have rx3:=rx.ext hb3
   have hcx:=cx3.cell
   have hl3:=rx3.lt
   clear hbr bx rx hb3 hrd
   unfold qN at hcx
   by_cases hy:c.f=f∧c.i=i
   ·obtain⟨hy1,hy2⟩:=hy
    obtain⟨k,hk⟩:=Int.eq_ofNat_of_zero_le hck1.1
    have hkl:k<H.m.fs.length:=by have:=hck1.2;omega
    obtain⟨bf,of,haf,hfrd⟩:=fu eu (by decide) (h.below hbr3).fr.rd k hkl
    have hki:(k:Int)<(H.m.fs.length:Int):=by omega
    have hcont:Hid (dz H.ma f i=(H.m.fs[k]).p):=Lib.hid (by
     unfold dz
     rw[show H.ma.ca.find? (fun c=>decide (c.f=f)&&decide (c.i=i))=some c from CO hc'.out hno.out ⟨hy1,hy2⟩]
     show (H.m.fs.getD c.k.toNat fr0).p=_
     rw[hk,List.getD_eq_getElem?_getD,show ((k:Nat):Int).toNat=k from rfl,List.getElem?_eq_getElem hkl];rfl)
    generalize H.m.fs[k]=X at hfrd hcont
    obtain⟨ys,hys⟩:=Gz X
    rw[hys] at hfrd
    have hprd:=FD hfrd
    have hcm:w3.cell? ⟨w.heap.size,0,none⟩=some (.slice (some ⟨bf,of,none⟩) H.m.fs.length H.cf):=by rw[bx3.cell,←haf];rfl
    rw[hy1,hy2,hk] at hcx
    clear hfrd hys
    go_wp2_with (first | (refine ax _ _ rfl bf (of+k*13) rfl rfl _ hprd _ Try.underlying50 rfl psize ?_) | (refine aB rfl _ _ _ rfl (w.heap.size+1) (dF X.p) rfl rfl _ _ rx3 rfl psize (dD X.p) ?_))
    intro w4 rx4 hg4
    have hb4:=hbr3.grown hg4 hbr3.size (fun k hk=>by cases hk;omega)
    clear hcx hcm
    go_wp2
    refine bodyPost_ret (v:=.agg (dF X.p)) (bU Try.results62 _ _ (w.heap.size+1) _ _ _ rfl rx4 Try.underlying50 rfl psize) rfl ?_
    exact⟨by rw[hcont.out],hb4⟩
   ·have hno' : Hid (∀d∈H.ca.take (q+1),¬(d.f=f∧d.i=i)):=Lib.hid fun d hd=>by
     rw[take_at hc'.out] at hd
     rcases List.mem_append.1 hd with hd|hd
     ·exact hno.out d hd
     ·rw[List.mem_singleton.1 hd];exact hy
    by_cases hy1:c.f=f
    ·have hy2:¬c.i=i:=fun e=>hy ⟨hy1,e⟩
     clear hy
     go_wp2
     go_roundw
     case rel=>exact⟨q+1,by omega,by go_num,hbr3,bx3,rx3,hno'⟩
     case measure=>simp[intOf];omega
    ·clear hy
     go_wp2
     go_roundw
     case rel=>exact⟨q+1,by omega,by go_num,hbr3,bx3,rx3,hno'⟩
     case measure=>simp[intOf];omega
  ·have hqi:¬(q:Int)<(H.ca.length:Int):=by omega
   rw[List.take_of_length_le (by omega)] at hno
   have hcx:=bx.cell
   unfold bP at hcx
   obtain⟨F,rfl⟩:=Int.eq_ofNat_of_zero_le hf.1
   obtain⟨I,rfl⟩:=Int.eq_ofNat_of_zero_le hi.1
   have hFl:F<H.fi.length:=by omega
   obtain⟨bf,of,hai,hrd⟩:=fu ib (by decide) h.st.rd F hFl
   obtain⟨p,hp⟩:∃p,H.fi[F]?=some p:=⟨_,List.getElem?_eq_getElem hFl⟩
   rw[show H.fi[F]=p from (List.getElem?_eq_some_iff.1 hp).2] at hrd
   have hrd0:=Lib.hid hrd
   have hrd:=hrd.below hbr
   have hgood:=(h.below hbr).st.good p (List.mem_of_getElem? hp)
   have hfa:fileAt H.ma.st (F:Int)=p.fi:=by
    unfold fileAt
    rw[if_pos (by omega)]
    show (H.fi.map PF.fi).getD F ⟨0,[]⟩=p.fi
    rw[List.getD_eq_getElem?_getD,List.getElem?_map,hp];rfl
   rw[hfa] at hi
   have hIl:I<p.l.length:=by have h2:=hi.2;have e:p.fi.b.length=p.l.length:=rfl;omega
   have hpz:p.l.length≤1000:=hz.2 p.fi (List.mem_map.2 ⟨p,List.mem_of_getElem? hp,rfl⟩)
   obtain⟨bb,ob,hpa,hcb⟩:=jk hgood.rd I hIl
   obtain⟨x,hX⟩:∃x,p.l[I]?=some x:=⟨_,List.getElem?_eq_getElem hIl⟩
   rw[show p.l[I]=x from (List.getElem?_eq_some_iff.1 hX).2] at hcb
   have hba:nX H.ma.st (F:Int) (I:Int)=x:=by
    unfold nX
    rw[hfa]
    show p.l.getD I 0=x
    rw[List.getD_eq_getElem?_getD,hX];rfl
   have rc:∀j u,(mZ p)[j]?=some u→wr.cell? ⟨bf,of+F*2+j,none⟩=some u:=fun j u hj=>by
    obtain⟨b',o',e,hcc⟩:=hrd j u hj
    cases e
    exact hcc
   have rc0:wr.cell? ⟨bf,of+F*2,none⟩=some (.int .i64 p.n):=rc 0 _ rfl
   have rc1:wr.cell? ⟨bf,of+F*2+1,none⟩=some (.slice p.a p.l.length p.c):=rc 1 _ rfl
   have hcont:Hid (dz H.ma F I=if 0≤x then dE (iN H.dk x) (p.n-(I:Int)*8) else zPg):=Lib.hid (by
    unfold dz
    rw[show H.ma.ca.find? (fun c=>decide (c.f=(F:Int))&&decide (c.i=(I:Int)))=none from uH hno.out,hba,hfa]
    rfl)
   have hFi:(F:Int)<(H.fi.length:Int):=by omega
   have hIi:(I:Int)<(p.l.length:Int):=by omega
   rw[hpa] at rc1
   rw[hai] at hcx
   have hrd':=Lib.hid hrd
   have hai':=Lib.hid hai
   have hpa':=Lib.hid hpa
   have hfi':=Lib.hid hfa
   clear rc hrd hai hpa hfa hp hX hba hi hgood
   by_cases hx:x<0
   ·go_wp2_with (refine aB rfl _ _ _ rfl (w.heap.size+1) (dF zPg) rfl rfl _ _ rx rfl psize (dD _) ?_)
    intro w4 rx4 hg4
    have hb4:=hbr.grown hg4 hbr.size (fun k hk=>by cases hk;omega)
    clear hcx
    go_wp2
    refine bodyPost_ret (v:=.agg (dF zPg)) (bU Try.results62 _ _ (w.heap.size+1) _ _ _ rfl rx4 Try.underlying50 rfl psize) rfl ?_
    exact⟨by rw[hcont.out,if_neg (by omega)],hb4⟩
   ·go_wp2_with (refine ax _ _ rfl w.heap.size 5 rfl rfl _ (bK bx 5 2) _ Try.underlying33 rfl disk_size ?_)
    refine (vR H.dk x _ _ _ _ _ (h.below hbr).dk).mono ?_
    rintro r w4 ⟨rfl,hb4⟩
    have hfr:=aC.new w4 (dF zPg) 50
    have hba:Below w4.heap.size w4 (w4.alloc (.cells (dF zPg) 50)):=(Below.refl _ _).alloc (Nat.le_refl _) _
    have hl4:=hb4.size
    have hlr:=rx.lt
    have bx5:=(bx.ext hb4).ext hba
    have rx5:=(rx.ext hb4).ext hba
    have hbr5:=ag (ag hbr hb4) hba
    clear hcx hcb rc0 rc1 bx rx hbr
    go_wp2_with (refine aB rfl _ _ _ rfl w4.heap.size (dF (iN H.dk x)) rfl rfl _ _ hfr rfl psize (dD _) ?_)
    intro w5 px6 hg5
    have hb6:=hbr5.grown hg5 hbr5.size (fun k hk=>by cases hk;omega)
    have bx6:=bx5.grown hg5 (fun e=>by have:=Option.some.inj e;omega)
    have rx6:=rx5.grown hg5 (fun e=>by have:=Option.some.inj e;omega)
    clear hfr hba bx5 rx5 hbr5 hg5 hb4
    generalize iN H.dk x=P at px6 hcont
    generalize hp4:w4.heap.size=p4 at *
    clear hp4
    go_upto_region 12 with (fail)
    go_loopw [59] (fun j wr => ∃k:Nat,k≤8∧j = .int .i64 k∧Below w.heap.size w wr∧aC wr w.heap.size (bP H) 40∧aC wr (w.heap.size+1) (dF zPg) 50∧aC wr p4 (dF (eH P (p.n-(I:Int)*8) k)) 50) (fun j _=>8-(intOf j).toNat)
    case atStart=>exact⟨0,by omega,rfl,hb6,bx6,rx6,by rw[show eH P (p.n-(I:Int)*8) 0=P from by ext j hj;simp[eH]];exact px6⟩
    case round=>
     clear hb6 bx6 rx6 px6
     obtain⟨k,hk,rfl,hbr,bx,rx,px⟩:=hrel
     by_cases hk8:k<8
     ·have hki:(k:Int)<8:=by omega
      have hcx:=bx.cell
      unfold bP at hcx
      rw[hai'.out] at hcx
      have rc0:wr.cell? ⟨bf,of+F*2,none⟩=some (.int .i64 p.n):=by
       obtain⟨b',o',e,hcc⟩:=(hrd0.out.below hbr) 0 _ rfl
       cases e
       exact hcc
      have hw1:IntKind.i64.wrap (8*(I:Int))=8*(I:Int):=IntWalk.i64_in _ (by omega)
      have hw2:IntKind.i64.wrap (8*(I:Int)+(k:Int))=8*(I:Int)+(k:Int):=IntWalk.i64_in _ (by omega)
      by_cases hge:p.n≤8*(I:Int)+k
      ·have hset:Hid ((dF (eH P (p.n-(I:Int)*8) k)).setIfInBounds k (.int .u8 0)=dF (eH P (p.n-(I:Int)*8) (k+1))):=Lib.hid (by
        rw[←qQ P _ k hk8 (by omega)];exact tF _ k hk8 0)
       generalize hT:eH P (p.n-(I:Int)*8) k=T at px hset
       clear hT
       go_wp2_with (refine aA rfl _ _ _ rfl p4 k _ [.int .u8 0] rfl rfl rfl _ _ px (by show k+1≤8;omega) (by kernel_rfl) (fun u hu=>by cases List.mem_singleton.1 hu;rfl) ?_)
       intro w7 px7 hg7
       rw[lG,hset.out] at px7
       have hbr7:=hbr.grown hg7 hbr.size (fun k hk=>by cases hk;omega)
       have bx7:=bx.grown hg7 (fun e=>by have:=Option.some.inj e;omega)
       have rx7:=rx.grown hg7 (fun e=>by have:=Option.some.inj e;omega)
       clear hbr bx rx px hg7 hcx rc0
       go_wp2
       go_roundw
       case rel=>exact⟨k+1,by omega,by go_num,hbr7,bx7,rx7,px7⟩
       case measure=>simp[intOf];omega
      ·have hset:eH P (p.n-(I:Int)*8) k=eH P (p.n-(I:Int)*8) (k+1):=by
        ext j hj
        simp only[eH,Vector.getElem_ofFn]
        by_cases e:p.n-(I:Int)*8≤(j:Int)
        ·rw[if_neg (by omega),if_neg (by omega)]
        ·rw[if_neg (by omega),if_neg (by omega)]
       rw[hset] at px
       clear hset
       go_wp2
       go_roundw
       case rel=>exact⟨k+1,by omega,by go_num,hbr,bx,rx,px⟩
       case measure=>simp[intOf];omega
     ·have hki:¬(k:Int)<8:=by omega
      rw[rM _ _ k (by omega)] at px
      have hcont' : Hid (dz H.ma F I=dE P (p.n-(I:Int)*8)):=Lib.hid (by rw[hcont.out,if_pos (by omega)])
      generalize dE P (p.n-(I:Int)*8)=C at px hcont'
      go_wp2_with (first | (refine ax _ _ rfl p4 0 rfl rfl _ px.rd _ Try.underlying50 rfl psize ?_) | (refine aB rfl _ _ _ rfl (w.heap.size+1) (dF C) rfl rfl _ _ rx rfl psize (dD _) ?_))
      intro w7 rx7 hg7
      have hb7:=hbr.grown hg7 hbr.size (fun k hk=>by cases hk;omega)
      go_wp2
      refine bodyPost_ret (v:=.agg (dF C)) (bU Try.results62 _ _ (w.heap.size+1) _ _ _ rfl rx7 Try.underlying50 rfl psize) rfl ?_
      exact⟨by rw[hcont'.out],hb7⟩
theorem srt_len:∀ {l:List Nat} {a n:Nat},l.Pairwise (· < ·)→(∀x∈l,a≤x∧x<n)→l.length≤n-a
 | [],_,_,_,_=>by simp
 | x::l,a,n,hs,h=>by
  obtain⟨h1,h2⟩:=List.pairwise_cons.1 hs
  have hx:=h x List.mem_cons_self
  have:=srt_len (a:=x+1) (n:=n) h2 fun y hy=>⟨h1 y hy,(h y (List.mem_cons_of_mem _ hy)).2⟩
  rw[List.length_cons]
  omega
theorem Em {m:Ma} (h:xQ m) (hs:aO m.st=0):m.ca.length≤60:=by
 have hl:∀c∈m.ca,0≤c.f∧c.f<5∧0≤c.i∧c.i<12:=fun c hc=>by
  have h1:=h.file c hc
  have h2:=xz hs h1
  have h3:=h1.1;have h4:=h1.2
  omega
 have key:=srt_len (l:=m.ca.map fun c=>(12*c.f+c.i).toNat) (a:=0) (n:=60) ?_ fun x hx => ?_
 ·simpa using key
 ·rw[List.pairwise_map]
  refine List.Pairwise.imp_of_mem ?_ h.srt
  intro a b ha hb hab
  have h1:=hl a ha
  have h2:=hl b hb
  unfold vE at hab
  show (12*a.f+a.i).toNat<(12*b.f+b.i).toNat
  omega
 ·obtain⟨c,hc,rfl⟩:=List.mem_map.1 hx
  have h1:=hl c hc
  show 0≤(12*c.f+c.i).toNat∧(12*c.f+c.i).toNat<60
  omega
theorem lC {s:St} (hs:aO s=0):∀f∈s.fs,f.b.length≤12:=fun f hf=>by
 obtain⟨k,hk,rfl⟩:=List.mem_iff_getElem.1 hf
 have h1:=tK hs (f:=(k:Int)) ⟨by omega,by omega⟩
 have hfa:fileAt s (k:Int)=s.fs[k]:=jf (List.getElem?_eq_getElem hk)
 rw[hfa] at h1
 obtain⟨a1,a2,a3,_⟩:=h1
 have e:(s.fs[k].b.length:Int)≤12:=by
  rw[a3];unfold bV
  split<;>omega
 omega
theorem pR {P:Program} {ρ:Operand→Value} {o:Oper} {w:World} (s x:Operand) (t:TypeId) (ho:o.op=Op.call { callee:=Callee.builtin Builtin.append,args:=#[s,x],argTypes:=#[t,t] })
  (B:Nat) (e:TypeId) (z:Value) (size bytes:Nat) (h1:P.underlying t=some (.slice e)) (h2:(P.info? e).map (fun i=>(i.zero,i.size,i.bytes))=some (some z,size,bytes)) (h6:z.cells.size=size) (h7:0<size)
  (g:Nat) (hs:ρ s = .slice (some ⟨g,0,none⟩) 0 0) (hown:Own w B e size (.slice (some ⟨g,0,none⟩) 0 0) 0 [])
  (ao:Option Addr) (m c:Nat) (news:List Value) (hx:ρ x = .slice ao m c) (hnone:ao=none→c=0) (hmc:m≤c) (hn:news.length=m*size) (hrd:bW w ao news)
  (b1:m≤maxLen) (b2:m*bytes≤140737488355328) (hB:B≤w.heap.size) :
  ∃v' w',(execOp ρ o).run P w = .ok (.value v') w'∧Below w.heap.size w w'∧Own w' B e size v' m news:=by
 obtain⟨ii,hi,hz,hsz,hby⟩:=info_parts h2
 rcases Nat.eq_zero_or_pos m with h0|h0
 ·subst h0
  obtain rfl:news=[]:=List.eq_nil_of_length_eq_zero (by simpa using hn)
  refine⟨.slice (some ⟨g,0,none⟩) 0 0,w,?_,Below.refl _ _,hown⟩
  cases ao with
  | none=>simp[execOp,ho,resolve,invoke,builtin,hs,hx,Builtin.append_,run_underlying h1,Go.sizeOf,typeInfo,hi,Builtin.lenOf,Builtin.firstCells,storeCells,Result.andThen]
  | some ad=>simp[execOp,ho,resolve,invoke,builtin,hs,hx,Builtin.append_,run_underlying h1,Go.sizeOf,typeInfo,hi,Builtin.lenOf,Builtin.firstCells,storeCells,loadCells,loadCellsFrom,Result.andThen]
 ·obtain⟨b,off,rfl,hc⟩:=hrd.at (by rw[hn];exact Nat.mul_pos h0 h7)
  obtain⟨v',w',hr,how,hgr⟩:=run_append_arg_grows (P:=P) w t o.type e ii z size bytes h1 hi hz hsz hby h6 h7 ⟨g,0,none⟩ 0 0 [] (by simp) (fun j u h=>by simp at h) ⟨b,off,none⟩ m c news hn (fun j u hj=>by rw[Addr.add_lit];exact hc j u hj) (by omega) (by omega) (by rw[Nat.zero_add];exact b2)
  have ho' : Own w' B e size v' m news:=by
   have:=(Own.of_owns how).mono hB
   simpa using this
  refine⟨v',w',?_,iy hgr,ho'⟩
  simp[execOp,ho,resolve,invoke,builtin,hs,hx,hr,Result.andThen]
theorem dx {P:Program} {ops:Array Oper} {ρ:Operand→Value} {o:Oper} {w:World} {l:List ig} {i:Nat} {J:(Nat→Bool)→(Nat→Value)→World→Prop} {L:Nat→Bool} {y:Nat→Value} {D:Value→World→Prop} (hw:Region.wanted o (says ρ ops)=true) (h:∃v' w',(execOp ρ o).run P w = .ok (.value v') w'∧D v' w')
  (hJ:∀v w',D v w'→J (bA L i) (bO y i v) w') (hR:∀v w',D v w'→rl l i v w') :
  if Region.wanted o (says ρ ops)=true then bJ P o ρ w (fun v w'=>J (bA L i) (bO y i v) w'∧rl l i v w') else J (bA L i) (bO y i undef) w∧rl l i undef w:=by
 obtain⟨v,w',h1,h2⟩:=h
 exact bi v hw h1 (hJ _ _ h2) (hR _ _ h2)
theorem zz {P:Program} {ops:Array Oper} {ρ:Operand→Value} {o:Oper} {w:World} {l:List ig} {i:Nat} {D:Value→Prop} (hw:Region.wanted o (says ρ ops)=true) (h:∃v,(execOp ρ o).run P w = .ok (.value v) w∧D v) (hR:∀v,D v→rl l i v w) :
  if Region.wanted o (says ρ ops)=true then bJ P o ρ w (fun v w'=>Below w.heap.size w w'∧rl l i v w') else rl l i undef w:=by
 obtain⟨v,h1,h2⟩:=h
 exact aj v hw h1 (hR _ h2)
theorem wK {α:Type} (enc:α→List Value) (sz:Nat) (hsz:∀x,(enc x).length=sz):∀(l:List α) (k:Nat),(l.flatMap enc).take (k*sz)=(l.take k).flatMap enc
 | [],k=>by simp
 | x::l,0=>by simp
 | x::l,k+1=>by
  rw[List.flatMap_cons,List.take_succ_cons,List.flatMap_cons,Nat.succ_mul,Nat.add_comm,List.take_append,hsz,List.take_of_length_le (by rw[hsz];omega),Nat.add_sub_cancel_left,wK enc sz hsz l k]
theorem wu {α:Type} (enc:α→List Value) (sz:Nat) (hsz:∀x,(enc x).length=sz):∀(l:List α) (k:Nat),(l.flatMap enc).drop (k*sz)=(l.drop k).flatMap enc
 | [],k=>by simp
 | x::l,0=>by simp
 | x::l,k+1=>by
  rw[List.flatMap_cons,List.drop_succ_cons,Nat.succ_mul,Nat.add_comm,List.drop_append,hsz,List.drop_eq_nil_of_le (by rw[hsz];omega),List.nil_append,Nat.add_sub_cancel_left,wu enc sz hsz l k]
theorem rZ (l : List Cc) (c : Cc) (q : Nat) (hq : q ≤ l.length) : ((l.flatMap jI).take (q * 3) ++ jI c) ++ (l.flatMap jI).drop (q * 3) = (l.insertIdx q c).flatMap jI := by
  rw [wK jI 3 jg, wu jI 3 jg]
  have : ∀ (l : List Cc) (q : Nat), q ≤ l.length → l.insertIdx q c = l.take q ++ c :: l.drop q := by
    intro l
    induction l with
    | nil => intro q hq; obtain rfl : q = 0 := by simpa using hq
             rfl
    | cons x l ih => intro q hq; cases q with
      | zero => rfl
      | succ q => rw [List.insertIdx_succ_cons, ih q (by simpa using hq)]; rfl
  rw [this l q hq]
  simp [List.flatMap_append]
theorem kD.take {w:World} {a:Option Addr} {c n k sz:Nat} {vs:List Value} (h:kD w a c n vs) (hk:k≤n):kD w a c k (vs.take (k*sz)):=
 ⟨Nat.le_trans hk h.le,h.mx,h.nl,fun j u hj=>h.rd j u (by
  rw[List.getElem?_take] at hj
  split at hj
  ·exact hj
  ·cases hj)⟩
theorem zK {P:Program} {ρ:Operand→Value} {o:Oper} {W0 w:World} {t e:TypeId} {x i:Operand} {a:Option Addr} {n c k sz:Nat} {vs:List Value} (ho:o.op = .slice t x none (some i) none) (hx:ρ x = .slice a n c) (hy:ρ i = .int .i64 (k:Int)) (hk:k≤n)
  (hu:P.underlying t=some (.slice e)) (hs:(P.info? e).map (·.size)=some sz) (h:kD W0 a c n vs):(execOp ρ o).run P w = .ok (.value (.slice a k c)) w∧kD W0 a c k (vs.take (k*sz)):=by
 obtain⟨inf,hinf,hsz⟩:∃inf,P.info? e=some inf∧inf.size=sz:=by
  cases h:P.info? e with
  | none=>rw[h] at hs;cases hs
  | some inf=>rw[h] at hs;exact⟨inf,rfl,by simpa using hs⟩
 have hso:(Go.sizeOf e).run P w = .ok sz w:=by simp[Go.sizeOf,typeInfo,hinf,go_sem,hsz]
 have hle:=h.le
 refine⟨?_,Nat.le_trans hk h.le,h.mx,h.nl,fun j u hj=>h.rd j u (by
  rw[List.getElem?_take] at hj
  split at hj
  ·exact hj
  ·cases hj)⟩
 have hkc:(k:Int)≤(c:Int):=by omega
 cases a with
 | none=>
  have hc0:=h.nl rfl
  subst hc0
  obtain rfl:k=0:=by omega
  simp[execOp,go_sem,ho,hx,hy,hu,hso,hkc]
 | some ad=>simp[execOp,go_sem,ho,hx,hy,hu,hso,hkc]
theorem zM {P:Program} {ρ:Operand→Value} {o:Oper} {W0 w:World} {t e:TypeId} {x i:Operand} {a:Option Addr} {n c k sz:Nat} {vs:List Value} (ho:o.op = .slice t x (some i) none none) (hx:ρ x = .slice a n c) (hy:ρ i = .int .i64 (k:Int)) (hk:k≤n)
  (hu:P.underlying t=some (.slice e)) (hs:(P.info? e).map (·.size)=some sz) (hl:vs.length=n*sz) (h:kD W0 a c n vs):∃v,(execOp ρ o).run P w = .ok (.value v) w∧∃a' c',v = .slice a' (n-k) c'∧kD W0 a' c' (n-k) (vs.drop (k*sz)):=by
 obtain⟨inf,hinf,hsz⟩:∃inf,P.info? e=some inf∧inf.size=sz:=by
  cases h:P.info? e with
  | none=>rw[h] at hs;cases hs
  | some inf=>rw[h] at hs;exact⟨inf,rfl,by simpa using hs⟩
 have hso:(Go.sizeOf e).run P w = .ok sz w:=by simp[Go.sizeOf,typeInfo,hinf,go_sem,hsz]
 have hle:=h.le
 have hmx:=h.mx
 have hkn:(k:Int)≤(n:Int):=by omega
 have hnc:(n:Int)≤(c:Int):=by omega
 cases a with
 | none=>
  have hc0:=h.nl rfl
  subst hc0
  obtain rfl:n=0:=by omega
  obtain rfl:k=0:=by omega
  obtain rfl:vs=[]:=List.eq_nil_of_length_eq_zero (by simpa using hl)
  exact⟨.slice none 0 0,by simp[execOp,go_sem,ho,hx,hy,hu,hso],none,0,rfl,Nat.le_refl _,Nat.zero_le _,fun _=>rfl,by rw[List.drop_nil];exact bW.nil⟩
 | some ad=>
  by_cases hc:k=c
  ·subst hc
   obtain rfl:k=n:=by omega
   refine⟨.slice (some ad) 0 0,by simp[execOp,go_sem,ho,hx,hy,hu,hso],some ad,0,by rw[Nat.sub_self],by omega,Nat.zero_le _,fun e=>(by cases e),?_⟩
   rw[List.drop_eq_nil_of_le (by omega)]
   exact bW.nil
  ·refine⟨.slice (some (ad.add (k*sz))) (n-k) (c-k),?_,some (ad.add (k*sz)),c-k,rfl,by omega,by omega,fun e=>(by cases e),?_⟩
   ·have h1:k<c:=by omega
    simp[execOp,go_sem,ho,hx,hy,hu,hso,hkn,hnc,h1]
    exact fun e=>absurd e.symm hc
   ·intro i u hi
    rw[List.getElem?_drop] at hi
    obtain⟨b,off,e1,e2⟩:=h.rd _ _ hi
    cases e1
    exact⟨b,off+k*sz,by rw[Addr.add_lit],by rw[Nat.add_assoc];exact e2⟩
def oL (W0:World) (q:Nat) (l:List Cc) (c:Cc):(Nat→Bool)→(Nat→Value)→World→Prop:=fun L y W=>
 Below W0.heap.size W0 W∧(L 23=true→L 15=true)∧(L 15=true→L 9=true) ∧
 (L 1=true→L 9=false→∃g,y 1 = .slice (some ⟨g,0,none⟩) 0 0∧Own W W0.heap.size 85 3 (.slice (some ⟨g,0,none⟩) 0 0) 0 []) ∧
 (L 9=true→L 15=false→Own W W0.heap.size 85 3 (y 9) q ((l.flatMap jI).take (q*3))) ∧
 (L 14=true→L 15=false→∃a e,y 14 = .slice a 1 e∧kD W a e 1 (jI c)) ∧
 (L 15=true→L 23=false→Own W W0.heap.size 85 3 (y 15) (q+1) ((l.flatMap jI).take (q*3)++jI c)) ∧
 (L 23=true→Own W W0.heap.size 85 3 (y 23) (q+1+(l.length-q)) (((l.flatMap jI).take (q*3)++jI c)++(l.flatMap jI).drop (q*3)))
theorem aU {W0:World} {q:Nat} {l:List Cc} {c:Cc}:∀L y W W',Below W.heap.size W W'→oL W0 q l c L y W→oL W0 q l c L y W':=
 fun _ _ _ _ hb ⟨h1,h2,h3,h4,h5,h6,h7,h8⟩=>⟨ag h1 hb,h2,h3,fun a b=>by
  obtain⟨g,e1,e2⟩:=h4 a b
  exact⟨g,e1,e2.below hb⟩,fun a b=>(h5 a b).below hb,fun a b=>by
  obtain⟨x,e,e1,e2⟩:=h6 a b
  exact⟨x,e,e1,e2.below hb⟩,fun a b=>(h7 a b).below hb,fun a=>(h8 a).below hb⟩
theorem FP {W0:World} {q:Nat} {l:List Cc} {c:Cc} (y:Nat→Value):oL W0 q l c (fun _=>false) y W0:=by
 refine⟨Below.refl _ _,?_,?_,?_,?_,?_,?_,?_⟩<;>· intro h;cases h
theorem FO {W0 W:World} {q:Nat} {l:List Cc} {c:Cc} {L:Nat→Bool} {y:Nat→Value} (h:oL W0 q l c L y W):oL W0 q l c (bA L 1) (bO y 1 (.slice (some ⟨W.heap.size,0,none⟩) 0 0)) (W.alloc (.cells #[] 85)):=by
 obtain⟨h1,h2,h3,h4,h5,h6,h7,h8⟩:=aU _ _ _ _ ((Below.refl _ _).alloc (Nat.le_refl _) (.cells #[] 85)) h
 exact⟨h1,h2,h3,fun _ _=>⟨_,rfl,Own.empty _ _ h.1.size⟩,h5,h6,h7,h8⟩
theorem Ea {W0 W W' : World} {q:Nat} {l:List Cc} {c:Cc} {L:Nat→Bool} {y:Nat→Value} {v:Value} (h:oL W0 q l c L y W) (hb:Below W.heap.size W W') (ho:Own W' W0.heap.size 85 3 v q ((l.flatMap jI).take (q*3))):oL W0 q l c (bA L 9) (bO y 9 v) W':=by
 obtain⟨h1,h2,h3,h4,h5,h6,h7,h8⟩:=aU _ _ _ _ hb h
 exact⟨h1,h2,fun _=>rfl,fun _ e=>(by cases e),fun _ _=>ho,h6,h7,h8⟩
theorem BO {W0 W W' : World} {q:Nat} {l:List Cc} {c:Cc} {L:Nat→Bool} {y:Nat→Value} {a:Option Addr} {e:Nat} (h:oL W0 q l c L y W) (hb:Below W.heap.size W W') (ho:kD W' a e 1 (jI c)):oL W0 q l c (bA L 14) (bO y 14 (.slice a 1 e)) W':=by
 obtain⟨h1,h2,h3,h4,h5,h6,h7,h8⟩:=aU _ _ _ _ hb h
 exact⟨h1,h2,h3,h4,h5,fun _ _=>⟨a,e,rfl,ho⟩,h7,h8⟩
theorem Cm {W0 W W' : World} {q:Nat} {l:List Cc} {c:Cc} {L:Nat→Bool} {y:Nat→Value} {v:Value} (h:oL W0 q l c L y W) (h15:L 15=false) (h9:L 9=true) (hg:W.grownBy W' (y 9).ownBlock) (ho:Own W' W0.heap.size 85 3 v (q+1) ((l.flatMap jI).take (q*3)++jI c)):oL W0 q l c (bA L 15) (bO y 15 v) W':=by
 obtain⟨h1,h2,h3,h4,h5,h6,h7,h8⟩:=h
 have h23:L 23=true→False:=fun e=>by rw[h2 e] at h15;cases h15
 exact⟨h1.grown hg h1.size (fun k hk=>(h5 h9 h15).ge k hk),fun _=>rfl,fun _=>h9,fun _ e=>(by rw[show bA L 15 9=L 9 from rfl,h9] at e;cases e),fun _ e=>(by cases e),fun _ e=>(by cases e),fun _ _=>ho,fun e=>(h23 e).elim⟩
theorem Cs {W0 W W' : World} {q:Nat} {l:List Cc} {c:Cc} {L:Nat→Bool} {y:Nat→Value} {v:Value} (h:oL W0 q l c L y W) (h23:L 23=false) (h15:L 15=true) (hg:W.grownBy W' (y 15).ownBlock) (ho:Own W' W0.heap.size 85 3 v (q+1+(l.length-q)) (((l.flatMap jI).take (q*3)++jI c)++(l.flatMap jI).drop (q*3))):oL W0 q l c (bA L 23) (bO y 23 v) W':=by
 obtain⟨h1,h2,h3,h4,h5,h6,h7,h8⟩:=h
 exact⟨h1.grown hg h1.size (fun k hk=>(h7 h15 h23).ge k hk),fun _=>h15,h3,fun _ e=>(by rw[show bA L 23 9=L 9 from rfl,h3 h15] at e;cases e),fun _ e=>(by rw[show bA L 23 15=L 15 from rfl,h15] at e;cases e),fun _ e=>(by rw[show bA L 23 15=L 15 from rfl,h15] at e;cases e),fun _ e=>(by cases e),fun _=>ho⟩
structure yl (S S' : MW):Prop where
 sp:S'.H.sp=S.H.sp
 fi:S'.H.fi=S.H.fi
 ct:S'.H.ct=S.H.ct
 dk:S'.H.dk=S.H.dk
 fl:S'.H.m.fs.length=S.H.m.fs.length
 sl:S'.H.sl.length=S.H.sl.length
theorem yl.refl (S:MW):yl S S:=⟨rfl,rfl,rfl,rfl,rfl,rfl⟩
theorem yl.trans {a b c:MW} (h:yl a b) (k:yl b c):yl a c:=⟨k.sp.trans h.sp,k.fi.trans h.fi,k.ct.trans h.ct,k.dk.trans h.dk,k.fl.trans h.fl,k.sl.trans h.sl⟩
theorem bR.rdM {w:World} {B b:Nat} {S:MW} (h:bR w B b S):bW w (some ⟨b,1,none⟩) (bP S.H).toList:=bK h.blk 1 11
theorem Bd.cas {m:Ma} {T:List (List En)} (h:Bd m T):m.ca.length≤60:=Em (m:=bN m T) h.rt.ca h.rt.pt.st
theorem Bd.fis {m:Ma} {T:List (List En)} (h:Bd m T):∀f∈m.st.fs,f.b.length≤12:=lC h.rt.pt.st
def Ba (S:MW) (B b:Nat) (w:World) (ks:List (Nat × Array Value × TypeId)):(Nat→Bool)→(Nat→Value)→World→Prop:=fun _ _ W=>
 ∃a c l,bR W B b (S.lst a c l)∧MS w b S W (S.lst a c l)∧∀t∈ks,aC W t.1 t.2.1 t.2.2∧¬gM b S t.1
theorem ay {S:MW} {B b:Nat} {w:World} {ks:List (Nat × Array Value × TypeId)}:∀L y W W',Below W.heap.size W W'→Ba S B b w ks L y W→Ba S B b w ks L y W':=
 fun _ _ _ _ hb ⟨a,c,l,h1,h2,h3⟩=>⟨a,c,l,h1.below hb,h2.below hb,fun t ht=>⟨(h3 t ht).1.ext hb,(h3 t ht).2⟩⟩
theorem qC {S:MW} {B b:Nat} {w W:World} {ks:List (Nat × Array Value × TypeId)} {L L' : Nat→Bool} {y:Nat→Value} {y' : Value→Nat→Value} (n:Int) (hn : -9223372036854775808≤n∧n≤9223372036854775807) (h:Ba S B b w ks L y W) {R:Value→World→Prop} (hR:∀x:Int,0≤x→x<256→(x<n∨x=0)→∀W',R (.int .i64 x) W') :
  Calls Try.prog 28 #[.pointer (some ⟨b,0,none⟩),.int .i64 n] W fun e W' => ∃v,e = .returned v∧Ba S B b w ks L' (y' v) W'∧R v W':=by
 obtain⟨a,c,l,h1,h2,h3⟩:=h
 refine (cB _ n B b W h1 hn).mono ?_
 rintro r W' ⟨x,a',c',l',rfl,k1,k2,k3,_⟩
 exact⟨_,rfl,⟨a',c',l',k1,h2.trans k2,fun t ht=>⟨k2.blkN (h3 t ht).1 (h3 t ht).2,(h3 t ht).2⟩⟩,hR x k3.1 k3.2.1 k3.2.2 W'⟩
theorem Gx {S:MW} {B b:Nat} {w W:World} {ks:List (Nat × Array Value × TypeId)} {L L' : Nat→Bool} {y:Nat→Value} {y' : Value→Nat→Value} (h:Ba S B b w ks L y W) {R:Value→World→Prop} (hR:∀P W',R (.agg (dF P)) W') :
  Calls Try.prog 31 #[.pointer (some ⟨b,0,none⟩)] W fun e W' => ∃v,e = .returned v∧Ba S B b w ks L' (y' v) W'∧R v W':=by
 obtain⟨a,c,l,h1,h2,h3⟩:=h
 refine (nH _ B b W h1).mono ?_
 rintro r W' ⟨P,a',c',l',rfl,k1,k2⟩
 exact⟨_,rfl,⟨a',c',l',k1,h2.trans k2,fun t ht=>⟨k2.blkN (h3 t ht).1 (h3 t ht).2,(h3 t ht).2⟩⟩,hR P W'⟩
theorem GH {l:List Cc} {f i:Int} {q:Nat} (hq:q≤l.length) (hno:∀d∈l.take q,DZ f i d=false) (hy:q=l.length∨∃c,l[q]?=some c∧DZ f i c=true):zV l f i=q:=by
 unfold zV
 rcases hy with rfl|⟨c,hc,hg⟩
 ·rw[List.take_of_length_le (Nat.le_refl _)] at hno
  rw[List.findIdx?_eq_none_iff.2 fun d hd=>hno d hd];rfl
 ·obtain⟨hl,rfl⟩:=List.getElem?_eq_some_iff.1 hc
  rw[List.findIdx?_eq_some_iff_getElem.2 ⟨hl,hg,fun j hj=>by
   have:=hno (l[j]'(by omega)) (List.mem_take_iff_getElem.2 ⟨j,by omega,rfl⟩)
   rw[this];decide⟩];rfl
def HV (S:MW) (f i:Int) (B b:Nat) (w:World) (r:Ending) (w' : World):Prop:=∃x S',r = .returned (.int .i64 x)∧bR w' B b S'∧MS w b S w' S'∧yl S S'∧S'.T=S.T∧Bd S'.H.ma S'.T∧(x = -1∨∃c∈S'.H.ca,c.f=f∧c.i=i∧c.k=x)
theorem yG (S:MW) (f i:Int) (B b:Nat) (w:World) (h:bR w B b S) (hd:Bd S.H.ma S.T) (hi:GN S.H.ma.st f i) :
  Calls Try.prog 107 #[.pointer (some ⟨b,0,none⟩),.int .i64 f,.int .i64 i] w (HV S f i B b w):=by
 have z7:S.H.ca.length≤60:=hd.cas
 have hBs:=Lib.hid h.bs
 have hb':=h.lt
 obtain⟨F,rfl⟩:=Int.eq_ofNat_of_zero_le hi.1.1
 obtain⟨I,rfl⟩:=Int.eq_ofNat_of_zero_le hi.2.1
 have hFl:F<S.H.fi.length:=by have:=hi.1.2;simp[MH.ma,dP] at this;omega
 have hFi:(F:Int)<(S.H.fi.length:Int):=by omega
 have hlim:=xz hd.few.2.2.2.2.1 hi
 have hF5:(F:Int)<5:=hlim.1
 have hI12:(I:Int)<12:=hlim.2.1
 obtain⟨N,hN⟩:∃N,(fileAt S.H.ma.st (F:Int)).n=N:=⟨_,rfl⟩
 obtain⟨p,hp⟩:∃p,S.H.fi[F]?=some p:=⟨_,List.getElem?_eq_getElem hFl⟩
 have hpn:p.n=N:=by
  rw[←hN]
  have:fileAt S.H.ma.st (F:Int)=p.fi:=jf (by show (S.H.fi.map PF.fi)[F]?=_;rw[List.getElem?_map,hp];rfl)
  rw[this];rfl
 have hp':=Lib.hid hp
 have hN':=Lib.hid hN
 have hpn':=Lib.hid hpn
 have hd':=Lib.hid hd
 have hi':=Lib.hid hi
 clear hd hi hp hN hpn hlim
 go_enter Try.func107,Try.ntmps107
 have hc:=h.blk.cell
 unfold dR at hc
 go_upto_region 2 with (fail)
 clear hc
 go_loopw [20] (fun k wr => ∃q:Nat,q≤S.H.ca.length∧k = .int .i64 q∧Below w.heap.size w wr∧Hid (∀d∈S.H.ca.take q,¬(d.f=(F:Int)∧d.i=(I:Int)))) (fun k _=>S.H.ca.length-(intOf k).toNat)
 case atStart=>exact⟨0,Nat.zero_le _,rfl,Below.refl _ _,Lib.hid (by simp)⟩
 case round=>
  obtain⟨q,hq,rfl,hbr,hno⟩:=hrel
  by_cases hql:q<S.H.ca.length
  ·obtain⟨bc,oc,hca,hrd⟩:=sM (h.ma.rd.below hbr).ca.rd q hql
   obtain⟨c,hc⟩:∃c,S.H.ca[q]?=some c:=⟨_,List.getElem?_eq_getElem hql⟩
   rw[show S.H.ca[q]=c from (List.getElem?_eq_some_iff.1 hc).2] at hrd
   have hqi:(q:Int)<(S.H.ca.length:Int):=by omega
   have hc':=Lib.hid hc
   clear hc
   rw[hca]
   go_wp2_with (first | (refine ax _ _ rfl bc (oc+q*3) rfl rfl _ hrd _ Try.underlying85 rfl cached_size ?_) | (refine aD rfl _ _ _ rfl (qN c) rfl rfl rfl cached_size (lU c) ?_))
   intro w3 hb3 cx3
   have hbr3:=ag hbr hb3
   have hcx:=cx3.cell
   have hl3:=cx3.lt
   clear hbr hb3 hrd
   unfold qN at hcx
   by_cases hy:c.f=(F:Int)∧c.i=(I:Int)
   ·obtain⟨hy1,hy2⟩:=hy
    rw[hy1,hy2] at hcx
    go_wp2
    go_ret
    exact⟨c.k,S,rfl,h.below hbr3,(MS.refl w b S).below hbr3,.refl _,rfl,hd'.out,.inr ⟨c,List.mem_of_getElem? hc'.out,hy1,hy2,rfl⟩⟩
   ·have hno' : Hid (∀d∈S.H.ca.take (q+1),¬(d.f=(F:Int)∧d.i=(I:Int))):=Lib.hid fun d hd=>by
     rw[take_at hc'.out] at hd
     rcases List.mem_append.1 hd with hd|hd
     ·exact hno.out d hd
     ·rw[List.mem_singleton.1 hd];exact hy
    by_cases hy1:c.f=(F:Int)
    ·have hy2:¬c.i=(I:Int):=fun e=>hy ⟨hy1,e⟩
     clear hy
     go_wp2
     go_roundw
     case rel=>exact⟨q+1,by omega,by go_num,hbr3,hno'⟩
     case measure=>simp[intOf];omega
    ·clear hy
     go_wp2
     go_roundw
     case rel=>exact⟨q+1,by omega,by go_num,hbr3,hno'⟩
     case measure=>simp[intOf];omega
  ·have hqi:¬(q:Int)<(S.H.ca.length:Int):=by omega
   rw[List.take_of_length_le (by omega)] at hno
   have h1:=h.below hbr
   have s1:=(MS.refl w b S).below hbr
   have hn0:=Lib.hid (h1.new (Nat.le_refl _))
   have hc:=h1.blk.cell
   unfold dR at hc
   go_wp2_with (refine ax _ _ rfl b 1 rfl rfl _ h1.rdM _ Try.underlying40 rfl machine_size ?_)
   refine (lK S.H F I _ h1.ma.rd ⟨by omega,fun f hf=>Nat.le_trans (hd'.out.fis f hf) (by decide)⟩ (fun c hc=>hd'.out.rt.ca.lt c hc) (by have:=hi'.out.1;simpa[MH.ma,dP] using this) hi'.out.2).mono ?_
   rintro r w2 ⟨rfl,hb2⟩
   have hP:Hid (dE (dz S.H.ma F I) (N-(I:Int)*8)=dz S.H.ma F I∧dz S.H.ma F I=jW S.H.ma F I):=Lib.hid (by
    have e:dz S.H.ma F I=jW S.H.ma F I:=by
     unfold dz jW
     rw[show S.H.ma.ca.find? (fun c=>decide (c.f=(F:Int))&&decide (c.i=(I:Int)))=none from uH hno.out]
    exact⟨by rw[e,←hN'.out];exact CQ _ _ _,e⟩)
   generalize dz S.H.ma F I=P at hP
   have h2:=h1.below hb2
   have s2:=s1.below hb2
   clear h1 s1 hc hb2 h hbr
   go_wp2_with (refine aD rfl _ _ _ rfl (dF P) rfl rfl rfl psize (dD P) ?_)
   intro w3 hb3 px3
   have h3:=h2.below hb3
   have s3:=s2.below hb3
   have hnp:=Lib.hid (h2.new (Nat.le_refl _))
   have hp0:=Lib.hid s2.size
   have hp1:w2.heap.size<w3.heap.size:=px3.lt
   have hpB:B≤w2.heap.size:=Nat.le_trans hBs.out hp0.out
   clear h2 s2 hb3
   generalize hp4:w2.heap.size=p4 at *
   clear hp4
   go_wp2_with fail
   refine (cB _ 2 B b _ h3 (by omega)).mono ?_
   rintro r w4 ⟨x,a4,c4,l4,rfl,h4,s4,hx,_⟩
   have px4:=s4.blkN px3 hnp.out
   have s4:=s3.trans s4
   clear h3 s3 px3 hx hp1
   go_upto_if 46 with (fail)
   go_cut [10] (fun s10 wx => ∃(d:Bool) (a:Option Addr) (c:Nat) (l:List UInt8) (P:Page),s10 = .bool d∧bR wx B b (S.lst a c l)∧MS w b S wx (S.lst a c l)∧aC wx p4 (dF P) 50∧Hid (dE P (N-(I:Int)*8)=P∧(d=false→P=jW S.H.ma F I)))
   case first=>
    by_cases hx1:x=1
    ·subst hx1
     go_wp2_with fail
     refine (nH _ B b _ h4).mono ?_
     rintro r w5 ⟨P2,a5,c5,l5,rfl,h5,s5⟩
     rw[iJ] at h5 s5
     have px5:=s5.blkN px4 hnp.out
     have s5:=s4.trans s5
     clear h4 s4 px4 hP
     go_wp2_with (refine aB rfl _ _ _ rfl p4 (dF P2) rfl rfl _ _ px5 rfl psize (dD _) ?_)
     intro w6 px6 hg6
     have h6:=h5.locT px5 (by decide) hnp.out hpB hg6
     have s6:=s5.loc hg6 hp0.out
     clear h5 s5 px5 hg6
     go_upto_region 11 with (fail)
     go_loopw [49] (fun j wr => ∃k:Nat,k≤8∧j = .int .i64 k∧bR wr B b (S.lst a5 c5 l5)∧MS w b S wr (S.lst a5 c5 l5)∧aC wr p4 (dF (eH P2 (N-(I:Int)*8) k)) 50) (fun j _=>8-(intOf j).toNat)
     case atStart=>exact⟨0,by omega,rfl,h6,s6,by rw[show eH P2 (N-(I:Int)*8) 0=P2 from by ext j hj;simp[eH]];exact px6⟩
     case round=>
      clear h6 s6 px6
      obtain⟨k,hk,rfl,hm,hs,px⟩:=hrel
      by_cases hk8:k<8
      ·have hki:(k:Int)<8:=by omega
       have hcx:=hm.blk.cell
       unfold dR at hcx
       dsimp only[MW.lst] at hcx
       obtain⟨bf,of,hai,hrd⟩:=fu ib (by decide) hm.ma.rd.st.rd F hFl
       dsimp only[MW.lst] at hai hrd
       rw[show S.H.fi[F]=p from (List.getElem?_eq_some_iff.1 hp'.out).2] at hrd
       rw[hai] at hcx
       have rc0:wr.cell? ⟨bf,of+F*2,none⟩=some (.int .i64 N):=by
        rw[←hpn'.out]
        obtain⟨b',o',e,hcc⟩:=hrd 0 _ rfl
        cases e
        exact hcc
       clear hrd hai
       have hw1:IntKind.i64.wrap (8*(I:Int))=8*(I:Int):=IntWalk.i64_in _ (by omega)
       have hw2:IntKind.i64.wrap (8*(I:Int)+(k:Int))=8*(I:Int)+(k:Int):=IntWalk.i64_in _ (by omega)
       by_cases hge:N≤8*(I:Int)+k
       ·have hset:Hid ((dF (eH P2 (N-(I:Int)*8) k)).setIfInBounds k (.int .u8 0)=dF (eH P2 (N-(I:Int)*8) (k+1))):=Lib.hid (by
         rw[←qQ P2 _ k hk8 (by omega)];exact tF _ k hk8 0)
        generalize hT:eH P2 (N-(I:Int)*8) k=T at px hset
        clear hT
        go_wp2_with (refine aA rfl _ _ _ rfl p4 k _ [.int .u8 0] rfl rfl rfl _ _ px (by show k+1≤8;omega) (by kernel_rfl) (fun u hu=>by cases List.mem_singleton.1 hu;rfl) ?_)
        intro w7 px7 hg7
        rw[lG,hset.out] at px7
        have hm7:=hm.locT px (by decide) hnp.out hpB hg7
        have hs7:=hs.loc hg7 hp0.out
        clear hm hs px hg7 hcx rc0
        go_wp2
        go_roundw
        case rel=>exact⟨k+1,by omega,by go_num,hm7,hs7,px7⟩
        case measure=>simp[intOf];omega
       ·have hset:eH P2 (N-(I:Int)*8) k=eH P2 (N-(I:Int)*8) (k+1):=by
         ext j hj
         simp only[eH,Vector.getElem_ofFn]
         by_cases e:N-(I:Int)*8≤(j:Int)
         ·rw[if_neg (by omega),if_neg (by omega)]
         ·rw[if_neg (by omega),if_neg (by omega)]
        rw[hset] at px
        clear hset
        go_wp2
        go_roundw
        case rel=>exact⟨k+1,by omega,by go_num,hm,hs,px⟩
        case measure=>simp[intOf];omega
      ·have hki:¬(k:Int)<8:=by omega
       rw[rM _ _ k (by omega)] at px
       have hC:Hid (dE (dE P2 (N-(I:Int)*8)) (N-(I:Int)*8)=dE P2 (N-(I:Int)*8)):=Lib.hid (Cn _ _)
       generalize dE P2 (N-(I:Int)*8)=C at px hC
       go_wp2
       go_meet
       case rel=>exact⟨true,a5,c5,l5,C,rfl,hm,hs,px,Lib.hid ⟨hC.out,fun h=>(by cases h)⟩⟩
    ·go_wp2
     go_meet
     case rel=>exact⟨false,a4,c4,l4,P,rfl,h4,s4,px4,Lib.hid ⟨hP.out.1,fun _=>hP.out.2⟩⟩
   case rest=>
    obtain⟨d,a5,c5,l5,P2,rfl,h5,s5,px5,hP2⟩:=hcut
    clear h4 s4 px4 hP
    go_upto_region 16 with (fail)
    refine dA 9 [.v (.pointer (some ⟨b,0,none⟩)),.v (.agg (dF P2)),_,.r 3 ((aM fun v => ∃x:Int,v = .int .i64 x∧0≤x)),.r 4 ((aM fun v => ∃u,v = .bool u)),_,_,_,.r 8 ((aM fun v => ∃u,v = .agg (pK ⟨P2,1,u,d,(F:Int),(I:Int)⟩)))] (Ba S B b w [(p4,dF P2,50)]) ay (fun _=>⟨a5,c5,l5,h5,s5,by simpa using ⟨px5,hnp.out⟩⟩) (Qk ay rfl (all_cons ?_ (Qk ay rfl (all_cons ?_ (all_cons ?_ (Qk ay rfl (Qk ay rfl (Qk ay rfl (all_cons ?_ (all_nil)))))))))) (fun _=>rfl) rfl ?_
    ·intro ρ y W L hw hn hLi hLd hb hd
     refine bG ay (fun _ _ h=>h) hb ?_
     have E9:ρ (.tmp 9) = .pointer (some ⟨p4,0,none⟩):=(hn (.tmp 9) rfl).trans rfl
     obtain⟨a,c,l,m1,m2,m3⟩:=hb
     have m3:=(m3 _ (List.mem_singleton.2 rfl)).1
     refine aj (.agg (dF P2)) (ah rfl) (bI rfl E9 m3 Try.underlying50 rfl psize) rfl
    ·intro ρ y W L hw hn hLi hLd hb hd;have E72:=hw 72 2 rfl;have h2:y 2=_:=hd 2 rfl
     have EC:∀v,ρ (.const v)=v:=fun v=>hn (.const v) trivial
     have EF:∀f,ρ (.func f) = .func (.func f) #[] #[]:=fun f=>hn (.func f) trivial
     refine dK _ _ (ah rfl) (aN rfl (EF _) Try.func28 (by kernel_rfl) (by kernel_rfl) (by simp only[List.map_toArray,List.map_cons,List.map_nil,E72,h2,EC,EF];rfl)) ?_
     exact qC 2 (by omega) hb fun x h1 _ _ _=>⟨x,rfl,h1⟩
    ·intro ρ y W L hw hn hLi hLd hb hd
     refine bG ay (fun _ _ h=>h) hb ?_
     have E73:=hw 73 3 rfl
     have h3:=hd 3 rfl
     obtain⟨x,hx,_⟩:=h3
     refine aj _ (ah rfl) (jo rfl (E73.trans hx) (hn (.const _) trivial) (by simp[go_sem];rfl)) ⟨_,rfl⟩
    ·intro ρ y W L hw hn hLi hLd hb hd
     refine bG ay (fun _ _ h=>h) hb ?_
     have E71:=hw 71 1 rfl
     have h1:y 1=_:=hd 1 rfl
     have E74:=hw 74 4 rfl
     have h4:=hd 4 rfl
     have E75:=hw 75 5 rfl
     have h5:y 5=_:=hd 5 rfl
     have E76:=hw 76 6 rfl
     have h6:y 6=_:=hd 6 rfl
     have E77:=hw 77 7 rfl
     have h7:y 7=_:=hd 7 rfl
     obtain⟨u,hu⟩:=h4
     have EC:∀v,ρ (.const v)=v:=fun v=>hn (.const v) trivial
     refine aj (.agg (pK ⟨P2,1,u,d,(F:Int),(I:Int)⟩)) (ah rfl) (by simp[execOp,go_sem,E71,h1,E74,E75,h5,E76,h6,E77,h7,EC,hu,dF,pK]) ⟨_,rfl⟩
    intro y W5 hbW5 hRW5
    have hy3:((aM fun v => ∃x:Int,v = .int .i64 x∧0≤x)).r (y 3) W5:=hRW5 3 (by decide)
    have hy4:((aM fun v => ∃u,v = .bool u)).r (y 4) W5:=hRW5 4 (by decide)
    have hy8:((aM fun v => ∃u,v = .agg (pK ⟨P2,1,u,d,(F:Int),(I:Int)⟩))).r (y 8) W5:=hRW5 8 (by decide)
    clear hRW5
    obtain⟨a6,c6,l6,h6,s6,px6⟩:=hbW5
    have px6:=(px6 _ (List.mem_singleton.2 rfl)).1
    obtain⟨u,hu⟩:=hy8
    rw[hu]
    clear hu h5 s5 px5
    go_wp2_with fail
    refine (vo _ _ B b _ h6 (by have:=hd'.out.few.1;show S.H.m.fs.length≤1000;have e:S.H.ma.m.fs.length=S.H.m.fs.length:=rfl;omega)).mono ?_
    rintro r w7 ⟨x7,a7,c7,l7,fs,rfl,h7,s7,hx7⟩
    rw[iJ] at h7 s7
    have s7:=s6.trans s7
    clear h6 s6 px6
    rcases hx7 with ⟨rfl,rfl⟩|⟨j,rfl,hj,hjr,rfl⟩
    ·go_wp2
     go_ret
     exact⟨-1,_,rfl,h7,s7,⟨rfl,rfl,rfl,rfl,rfl,rfl⟩,rfl,hd'.out,.inl rfl⟩
    ·have hj' : j<S.H.m.fs.length:=hj
     have hjr':=Lib.hid hjr
     have hj0:(0:Int)≤(j:Int):=by omega
     clear hj hjr
     go_upto_region 20 with (fail)
     go_loopw [13] (fun k wr => ∃q:Nat,q≤S.H.ca.length∧k = .int .i64 q∧Below w7.heap.size w7 wr∧Hid (∀d∈S.H.ca.take q,DZ F I d=false)) (fun k _=>S.H.ca.length-(intOf k).toNat)
     case atStart=>exact⟨0,Nat.zero_le _,rfl,Below.refl _ _,Lib.hid (by simp)⟩
     case round=>
      obtain⟨q,hq,rfl,hb7,hno7⟩:=hrel
      have hm8:=h7.below hb7
      have hwc:IntKind.i64.wrap (100*(F:Int))=100*(F:Int):=IntWalk.i64_in _ (by omega)
      have hwd:IntKind.i64.wrap (100*(F:Int)+(I:Int))=100*(F:Int)+(I:Int):=IntWalk.i64_in _ (by omega)
      by_cases hql:q<S.H.ca.length
      ·obtain⟨bc,oc,hca,hrd⟩:=sM hm8.ma.rd.ca.rd q hql
       have hca:S.H.ac=some ⟨bc,oc,none⟩:=hca
       obtain⟨c,hc⟩:∃c,S.H.ca[q]?=some c:=⟨_,List.getElem?_eq_getElem hql⟩
       have hrd:bW wr (some ⟨bc,oc+q*3,none⟩) (jI c):=by rw[←(List.getElem?_eq_some_iff.1 hc).2];exact hrd
       have hqi:(q:Int)<(S.H.ca.length:Int):=by omega
       have hcl:=hd'.out.rt.ca.file c (List.mem_of_getElem? hc)
       have hcl2:=xz hd'.out.few.2.2.2.2.1 hcl
       have hcl1:0≤c.f∧0≤c.i:=⟨hcl.1.1,hcl.2.1⟩
       have hwa:IntKind.i64.wrap (100*c.f)=100*c.f:=IntWalk.i64_in _ (by omega)
       have hwb:IntKind.i64.wrap (100*c.f+c.i)=100*c.f+c.i:=IntWalk.i64_in _ (by omega)
       have hq0:∀W,Below wr.heap.size wr W→W.cell? ⟨bc,oc+q*3,none⟩=some (.int .i64 c.f):=fun W hb=>by
        obtain⟨b',o',e,hcc⟩:=(hrd.below hb) 0 _ rfl
        cases e
        exact hcc
       have hq1:∀W,Below wr.heap.size wr W→W.cell? ⟨bc,oc+q*3+1,none⟩=some (.int .i64 c.i):=fun W hb=>by
        obtain⟨b',o',e,hcc⟩:=(hrd.below hb) 1 _ rfl
        cases e
        exact hcc
       have hgc:Hid (DZ F I c=true↔¬100*c.f+c.i<100*(F:Int)+(I:Int)):=Lib.hid (by
        rw[xB]
        omega)
       by_cases hlt:100*c.f+c.i<100*(F:Int)+(I:Int)
       ·skip
        go_upto_region 20 with (fail)
        refine aF 35 [_,_,_,_,_,_,_,_,_,_,_,_,_,_,_,_,_,_,_,_,_,_,_,_,_,_,_,_,_,_,_,_,_,_,.v (.bool true)] (Gk rfl (Gk rfl (Gk rfl (Gf b 1 rfl rfl (Gf b 10 rfl rfl (Gl hm8.blk (V:=.slice S.H.ac S.H.ca.length S.H.cc) (by simp[dR,MW.frs,MW.lst]) rfl rfl rfl rfl (Gn rfl rfl rfl rfl (Gb (.bool true) (by simp[go_sem,hqi,hql]) rfl rfl rfl rfl rfl (Gk rfl (Gk rfl (Gk rfl (Gf b 1 rfl rfl (Gf b 10 rfl rfl (Gl hm8.blk (V:=.slice (some ⟨bc,oc,none⟩) S.H.ca.length S.H.cc) (by simp[dR,MW.frs,MW.lst,hca]) rfl rfl rfl rfl (Gk rfl (Gr (.pointer (some ⟨bc,oc+q*3,none⟩)) (fun ρ y W hb hKn=>(aT rfl (az rfl hKn) (az rfl hKn) hql Try.underlying37 cached_size)) rfl rfl (Gf bc (oc+q*3) rfl rfl (Gc (.int .i64 c.f) (fun W hb=>by simp[hq0 _ hb]) rfl rfl rfl rfl (Gb (.int .i64 (100*c.f)) (by simp[go_sem,hwa]) rfl rfl rfl rfl rfl (Gk rfl (Gk rfl (Gf b 1 rfl rfl (Gf b 10 rfl rfl (Gl hm8.blk (V:=.slice (some ⟨bc,oc,none⟩) S.H.ca.length S.H.cc) (by simp[dR,MW.frs,MW.lst,hca]) rfl rfl rfl rfl (Gk rfl (Gr (.pointer (some ⟨bc,oc+q*3,none⟩)) (fun ρ y W hb hKn=>(aT rfl (az rfl hKn) (az rfl hKn) hql Try.underlying37 cached_size)) rfl rfl (Gf bc (oc+q*3+1) rfl rfl (Gc (.int .i64 c.i) (fun W hb=>by simp[hq1 _ hb]) rfl rfl rfl rfl (Gb (.int .i64 (100*c.f+c.i)) (by simp[go_sem,hwb]) rfl rfl rfl rfl rfl (Gk rfl (Gb (.int .i64 (100*(F:Int))) (by simp[go_sem,hwc]) rfl rfl rfl rfl rfl (Gk rfl (Gb (.int .i64 (100*(F:Int)+(I:Int))) (by simp[go_sem,hwd]) rfl rfl rfl rfl rfl (Gb (.bool true) (by simp[go_sem,hlt]) rfl rfl rfl rfl rfl (Gk rfl (all_nil)))))))))))))))))))))))))))))))))))) (fun _=>rfl) rfl ?_
        intro y W8 hbW8 _
        have hno8:Hid (∀d∈S.H.ca.take (q+1),DZ F I d=false):=Lib.hid fun d hd=>by
         rw[take_at hc] at hd
         rcases List.mem_append.1 hd with hd|hd
         ·exact hno7.out d hd
         ·rw[List.mem_singleton.1 hd]
          cases hg:DZ F I c with
          | false=>rfl
          | true=>exact absurd hlt (hgc.out.1 hg)
        have hb8:=ag hb7 hbW8
        clear hbW8 hc hca hrd hq0 hq1 hgc hno7 hm8
        go_wp2
        go_roundw
        case rel=>exact⟨q+1,by omega,by go_num,hb8,hno8⟩
        case measure=>simp[intOf];omega
       ·skip
        go_upto_region 20 with (fail)
        refine aF 35 [_,_,_,_,_,_,_,_,_,_,_,_,_,_,_,_,_,_,_,_,_,_,_,_,_,_,_,_,_,_,_,_,_,_,.v (.bool false)] (Gk rfl (Gk rfl (Gk rfl (Gf b 1 rfl rfl (Gf b 10 rfl rfl (Gl hm8.blk (V:=.slice S.H.ac S.H.ca.length S.H.cc) (by simp[dR,MW.frs,MW.lst]) rfl rfl rfl rfl (Gn rfl rfl rfl rfl (Gb (.bool true) (by simp[go_sem,hqi,hql]) rfl rfl rfl rfl rfl (Gk rfl (Gk rfl (Gk rfl (Gf b 1 rfl rfl (Gf b 10 rfl rfl (Gl hm8.blk (V:=.slice (some ⟨bc,oc,none⟩) S.H.ca.length S.H.cc) (by simp[dR,MW.frs,MW.lst,hca]) rfl rfl rfl rfl (Gk rfl (Gr (.pointer (some ⟨bc,oc+q*3,none⟩)) (fun ρ y W hb hKn=>(aT rfl (az rfl hKn) (az rfl hKn) hql Try.underlying37 cached_size)) rfl rfl (Gf bc (oc+q*3) rfl rfl (Gc (.int .i64 c.f) (fun W hb=>by simp[hq0 _ hb]) rfl rfl rfl rfl (Gb (.int .i64 (100*c.f)) (by simp[go_sem,hwa]) rfl rfl rfl rfl rfl (Gk rfl (Gk rfl (Gf b 1 rfl rfl (Gf b 10 rfl rfl (Gl hm8.blk (V:=.slice (some ⟨bc,oc,none⟩) S.H.ca.length S.H.cc) (by simp[dR,MW.frs,MW.lst,hca]) rfl rfl rfl rfl (Gk rfl (Gr (.pointer (some ⟨bc,oc+q*3,none⟩)) (fun ρ y W hb hKn=>(aT rfl (az rfl hKn) (az rfl hKn) hql Try.underlying37 cached_size)) rfl rfl (Gf bc (oc+q*3+1) rfl rfl (Gc (.int .i64 c.i) (fun W hb=>by simp[hq1 _ hb]) rfl rfl rfl rfl (Gb (.int .i64 (100*c.f+c.i)) (by simp[go_sem,hwb]) rfl rfl rfl rfl rfl (Gk rfl (Gb (.int .i64 (100*(F:Int))) (by simp[go_sem,hwc]) rfl rfl rfl rfl rfl (Gk rfl (Gb (.int .i64 (100*(F:Int)+(I:Int))) (by simp[go_sem,hwd]) rfl rfl rfl rfl rfl (Gb (.bool false) (by simp[go_sem,hlt]) rfl rfl rfl rfl rfl (Gk rfl (all_nil)))))))))))))))))))))))))))))))))))) (fun _=>rfl) rfl ?_
        intro y W8 hbW8 _
        have hat:Hid (zV S.H.ca F I=q):=Lib.hid (GH hq hno7.out (.inr ⟨c,hc,hgc.out.2 hlt⟩))
        clear hc hca hrd hq0 hq1 hgc
        have hb8:=ag hb7 hbW8
        have hm9:=h7.below hb8
        have s9:=s7.below hb8
        clear hbW8 hm8 hno7
        go_upto_region 22 with (fail)
        have sC:kD W8 S.H.ac S.H.cc S.H.ca.length (S.H.ca.flatMap jI):=hm9.ma.rd.ca
        have sT:=sC.take (sz:=3) hq
        have hcl60:S.H.ca.length≤60:=z7
        have tlen:((S.H.ca.flatMap jI).take (q*3)).length=q*3:=by rw[List.length_take,lZ];omega
        have dlen:((S.H.ca.flatMap jI).drop (q*3)).length=(S.H.ca.length-q)*3:=by rw[List.length_drop,lZ];omega
        refine dA 27 [_,.r 1 ((aM fun _=>True)),_,_,_,_,.v (.slice S.H.ac S.H.ca.length S.H.cc),_,_,.r 9 ((aM fun _=>True)),_,_,_,.v (.agg #[.int .i64 (F:Int),.int .i64 (I:Int),.int .i64 (j:Int)]),.r 14 ((aM fun _=>True)),.r 15 ((aM fun _=>True)),_,_,_,_,.v (.slice S.H.ac S.H.ca.length S.H.cc),_,.r 22 ((aM fun v => ∃a e,v = .slice a (S.H.ca.length-q) e∧kD W8 a e (S.H.ca.length-q) ((S.H.ca.flatMap jI).drop (q*3)))),.r 23 ((aM fun _=>True)),_,_,_] (oL W8 q S.H.ca ⟨(F:Int),(I:Int),(j:Int)⟩) aU (fun y=>FP y) (Qk aU rfl (all_cons ?_ (Qk aU rfl (Qk aU rfl (Qf aU b 1 rfl rfl (Qf aU b 10 rfl rfl (all_cons ?_ (Qk aU rfl (Qr aU (.slice S.H.ac q S.H.cc) (fun ρ y W hKn=>(zK (W0:=W8) rfl (az rfl hKn) (az rfl hKn) hq Try.underlying37 cached_size sC).1) rfl rfl (all_cons ?_ (Qk aU rfl (Qk aU rfl (Qk aU rfl (all_cons ?_ (all_cons ?_ (all_cons ?_ (Qk aU rfl (Qk aU rfl (Qf aU b 1 rfl rfl (Qf aU b 10 rfl rfl (all_cons ?_ (Qk aU rfl (all_cons ?_ (all_cons ?_ (Qk aU rfl (Qf aU b 1 rfl rfl (Qf aU b 10 rfl rfl (all_nil)))))))))))))))))))))))))))) (fun _=>rfl) rfl ?_
        ·intro ρ y W L hw hn hLi hLd hb hd
         refine bi (.slice (some ⟨W.heap.size,0,none⟩) 0 0) (ah rfl) ?_ (FO hb) trivial
         simp[execOp,go_sem]
        ·intro ρ y W L hw hn hLi hLd hb hd
         refine bG aU (fun _ _ h=>h) hb ?_
         have E124:=hw 124 5 rfl
         have h5:y 5=_:=hd 5 rfl
         refine aj (.slice S.H.ac S.H.ca.length S.H.cc) (ah rfl) (by simp[execOp,go_sem,E124,h5,(hm9.below hb.1).blk.cell,dR,MW.frs,MW.lst]) rfl
        ·intro ρ y W L hw hn hLi hLd hb hd;have E120:=hw 120 1 rfl;have h1:=hd 1 rfl;have E127:=hw 127 8 rfl;have h8:y 8=_:=hd 8 rfl
         obtain⟨g,hg1,hg2⟩:=hb.2.2.2.1 (hLd 1 rfl) hLi
         refine dx (ah rfl) (pR _ _ _ rfl W8.heap.size 85 (.agg #[.int .i64 0,.int .i64 0,.int .i64 0]) 3 24 Try.underlying37 cached_info rfl (by decide) g (E120.trans hg1) hg2 S.H.ac q S.H.cc _ (E127.trans h8) sT.nl sT.le tlen (sT.below hb.1).rd (by unfold maxLen;omega) (by omega) hb.1.size) (fun v W1 h=>Ea hb h.1 h.2) (fun _ _ _=>trivial)
        ·intro ρ y W L hw hn hLi hLd hb hd
         refine bG aU (fun _ _ h=>h) hb ?_
         have E129:=hw 129 10 rfl
         have h10:y 10=_:=hd 10 rfl
         have E130:=hw 130 11 rfl
         have h11:y 11=_:=hd 11 rfl
         have E131:=hw 131 12 rfl
         have h12:y 12=_:=hd 12 rfl
         refine aj (.agg #[.int .i64 (F:Int),.int .i64 (I:Int),.int .i64 (j:Int)]) (ah rfl) (by simp[execOp,go_sem,E129,h10,E130,h11,E131,h12]) rfl
        ·intro ρ y W L hw hn hLi hLd hb hd;have E132:=hw 132 13 rfl;have h13:y 13=_:=hd 13 rfl
         refine bi (.slice (some ⟨W.heap.size,0,none⟩) 1 1) (ah rfl) ?_ (BO (W':=W.alloc (.cells (qN ⟨(F:Int),(I:Int),(j:Int)⟩) 85)) hb ((Below.refl _ _).alloc (Nat.le_refl _) _) ⟨Nat.le_refl _,by unfold maxLen;omega,fun e=>(by cases e),bW.new _ _ _⟩) trivial
         simp[execOp,go_sem,E132.trans h13,qN]
        ·intro ρ y W L hw hn hLi hLd hb hd;have E128:=hw 128 9 rfl;have h9:=hd 9 rfl;have E133:=hw 133 14 rfl;have h14:=hd 14 rfl
         obtain⟨a,e,hx1,hx2⟩:=hb.2.2.2.2.2.1 (hLd 14 rfl) hLi
         have hv:=hb.2.2.2.2.1 (hLd 9 rfl) hLi
         refine dx (ah rfl) (fH _ _ _ rfl W8.heap.size 85 (.agg #[.int .i64 0,.int .i64 0,.int .i64 0]) 3 24 Try.underlying37 cached_info rfl (by decide) (y 9) q _ E128 hv a 1 e _ (E133.trans hx1) hx2.nl hx2.le rfl hx2.rd (wZ _) (by unfold maxLen;omega) (by omega) hb.1.size) (fun v W1 h=>Cm hb hLi (hLd 9 rfl) h.2.1 h.1) (fun _ _ _=>trivial)
        ·intro ρ y W L hw hn hLi hLd hb hd
         refine bG aU (fun _ _ h=>h) hb ?_
         have E138:=hw 138 19 rfl
         have h19:y 19=_:=hd 19 rfl
         refine aj (.slice S.H.ac S.H.ca.length S.H.cc) (ah rfl) (by simp[execOp,go_sem,E138,h19,(hm9.below hb.1).blk.cell,dR,MW.frs,MW.lst]) rfl
        ·intro ρ y W L hw hn hLi hLd hb hd
         refine bG aU (fun _ _ h=>h) hb ?_
         have E139:=hw 139 20 rfl
         have h20:y 20=_:=hd 20 rfl
         have E140:=hw 140 21 rfl
         have h21:y 21=_:=hd 21 rfl
         exact zz (ah rfl) (zM (W0:=W8) rfl (E139.trans h20) (E140.trans h21) hq Try.underlying37 cached_size (lZ _) sC) (fun _ h=>h)
        ·intro ρ y W L hw hn hLi hLd hb hd;have E134:=hw 134 15 rfl;have h15:=hd 15 rfl;have E141:=hw 141 22 rfl;have h22:=hd 22 rfl
         obtain⟨a,e,hx1,hx2⟩:=h22
         have hv:=hb.2.2.2.2.2.2.1 (hLd 15 rfl) hLi
         refine dx (ah rfl) (fH _ _ _ rfl W8.heap.size 85 (.agg #[.int .i64 0,.int .i64 0,.int .i64 0]) 3 24 Try.underlying37 cached_info rfl (by decide) (y 15) (q+1) _ E134 hv a (S.H.ca.length-q) e _ (E141.trans hx1) hx2.nl hx2.le dlen (hx2.below hb.1).rd (fun u hu=>yf _ u (List.mem_of_mem_drop hu)) (by unfold maxLen;omega) (by omega) hb.1.size) (fun v W1 h=>Cs hb hLi (hLd 15 rfl) h.2.1 h.1) (fun _ _ _=>trivial)
        intro y W9 hbW9 hRW9
        have hy1:((aM fun _=>True)).r (y 1) W9:=hRW9 1 (by decide)
        have hy9:((aM fun _=>True)).r (y 9) W9:=hRW9 9 (by decide)
        have hy14:((aM fun _=>True)).r (y 14) W9:=hRW9 14 (by decide)
        have hy15:((aM fun _=>True)).r (y 15) W9:=hRW9 15 (by decide)
        have hy22:((aM fun v => ∃a e,v = .slice a (S.H.ca.length-q) e∧kD W8 a e (S.H.ca.length-q) ((S.H.ca.flatMap jI).drop (q*3)))).r (y 22) W9:=hRW9 22 (by decide)
        have hy23:((aM fun _=>True)).r (y 23) W9:=hRW9 23 (by decide)
        clear hRW9
        have hoC:=hbW9.2.2.2.2.2.2.2 rfl
        have hm10:=hm9.below hbW9.1
        have s10:=s9.below hbW9.1
        rw[rZ _ _ _ hq] at hoC
        have hlenI:Hid ((S.H.ca.insertIdx q (⟨(F:Int),(I:Int),(j:Int)⟩:Cc)).length=q+1+(S.H.ca.length-q)):=Lib.hid (by rw[List.length_insertIdx_of_le_length hq];omega)
        obtain⟨a9,c9,hv9,_⟩:=hoC.rd
        rw[hv9] at hoC ⊢
        have hge9:Hid (∀x,oB a9=some x→w.heap.size≤x):=Lib.hid fun x hx=>Nat.le_trans s9.size (gJ hoC hx).1
        have hoC:=hoC.mono (Nat.le_trans hm9.bs (Nat.le_refl _))
        clear hv9 hbW9 hm9 s9 sT sC tlen dlen h7 s7
        go_wp2_with (refine aA rfl _ _ _ rfl b 10 _ [.slice a9 (q+1+(S.H.ca.length-q)) c9] rfl rfl rfl _ _ hm10.blk (by show 10+1≤13;omega) (by kernel_rfl) (fun u hu=>by cases List.mem_singleton.1 hu;rfl) ?_)
        intro w11 hb11 hg11
        have hm12:=hm10.setC (l:=S.H.ca.insertIdx q ⟨(F:Int),(I:Int),(j:Int)⟩) (by rw[hlenI.out];exact hoC) (by rw[hlenI.out];exact hb11) hg11
        have s12:=s10.put (H':=_) hg11 (.inl rfl) (fun x (hx:gM b { ((S.lst a7 c7 l7).frs (S.H.m.fs.set j ⟨P2,1,u,d,(F:Int),(I:Int)⟩)) with H:={ ((S.lst a7 c7 l7).frs (S.H.m.fs.set j ⟨P2,1,u,d,(F:Int),(I:Int)⟩)).H with ac:=a9,cc:=c9,ca:=S.H.ca.insertIdx q ⟨(F:Int),(I:Int),(j:Int)⟩ } } x)=>by
         rcases hx with hx|hx
         ·exact .inl (.inl hx)
         ·simp only[dH,List.mem_cons,List.not_mem_nil,or_false] at hx
          rcases hx with hx|hx|hx|hx|hx|hx|hx|hx|hx
          ·exact .inl (.inr (by simp only[dH,List.mem_cons,List.not_mem_nil,or_false];exact .inl hx))
          ·exact .inl (.inr (by simp only[dH,List.mem_cons,List.not_mem_nil,or_false];exact .inr (.inl hx)))
          ·exact .inl (.inr (by simp only[dH,List.mem_cons,List.not_mem_nil,or_false];exact .inr (.inr (.inl hx))))
          ·exact .inl (.inr (by simp only[dH,List.mem_cons,List.not_mem_nil,or_false];exact .inr (.inr (.inr (.inl hx)))))
          ·exact .inl (.inr (by simp only[dH,List.mem_cons,List.not_mem_nil,or_false];exact .inr (.inr (.inr (.inr (.inl hx))))))
          ·exact .inl (.inr (by simp only[dH,List.mem_cons,List.not_mem_nil,or_false];exact .inr (.inr (.inr (.inr (.inr (.inl hx)))))))
          ·exact .inr (hge9.out x hx.symm)
          ·exact .inl (.inr (by simp only[dH,List.mem_cons,List.not_mem_nil,or_false];exact .inr (.inr (.inr (.inr (.inr (.inr (.inr (.inl hx)))))))))
          ·exact .inl (.inr (by simp only[dH,List.mem_cons,List.not_mem_nil,or_false];exact .inr (.inr (.inr (.inr (.inr (.inr (.inr (.inr hx))))))))))
        clear hm10 s10 hb11 hg11 hoC
        go_wp2
        go_ret
        have hbd:=hd'.out.cache (X:=⟨P2,1,u,d,(F:Int),(I:Int)⟩) hi'.out hno.out hj' hjr'.out ⟨rfl,rfl,rfl⟩ (by rw[hN'.out];exact hP2.out.1) hP2.out.2
        refine⟨j,_,rfl,hm12,s12,⟨rfl,rfl,rfl,rfl,List.length_set,rfl⟩,rfl,?_,.inr ⟨⟨(F:Int),(I:Int),(j:Int)⟩,(List.mem_insertIdx hq).2 (.inl rfl),rfl,rfl,rfl⟩⟩
        unfold oU at hbd
        rw[show zV S.H.ma.ca F I=q from hat.out] at hbd
        exact hbd
      ·have hqi:¬(q:Int)<(S.H.ca.length:Int):=by omega
       go_upto_region 20 with (fail)
       refine aF 35 [_,_,_,_,_,_,_,_,_,_,_,_,_,_,_,_,_,_,_,_,_,_,_,_,_,_,_,_,_,_,_,_,_,_,.v (.bool false)] (Gk rfl (Gk rfl (Gk rfl (Gf b 1 rfl rfl (Gf b 10 rfl rfl (Gl hm8.blk (V:=.slice S.H.ac S.H.ca.length S.H.cc) (by simp[dR,MW.frs,MW.lst]) rfl rfl rfl rfl (Gn rfl rfl rfl rfl (Gb (.bool false) (by simp[go_sem,hqi,hql]) rfl rfl rfl rfl rfl (Gk rfl (Gk rfl (Gk rfl (Gk rfl (Gk rfl (Gk rfl (Gk rfl (Gk rfl (Gk rfl (Gk rfl (Gk rfl (Gk rfl (Gk rfl (Gk rfl (Gk rfl (Gk rfl (Gk rfl (Gk rfl (Gk rfl (Gk rfl (Gk rfl (Gk rfl (Gk rfl (Gk rfl (Gk rfl (Gk rfl (Gk rfl (all_nil)))))))))))))))))))))))))))))))))))) (fun _=>rfl) rfl ?_
       intro y W8 hbW8 _
       have hat:Hid (zV S.H.ca F I=q):=Lib.hid (GH hq hno7.out (.inl (by omega)))
       have hb8:=ag hb7 hbW8
       have hm9:=h7.below hb8
       have s9:=s7.below hb8
       clear hbW8 hm8 hno7
       go_upto_region 22 with (fail)
       have sC:kD W8 S.H.ac S.H.cc S.H.ca.length (S.H.ca.flatMap jI):=hm9.ma.rd.ca
       have sT:=sC.take (sz:=3) hq
       have hcl60:S.H.ca.length≤60:=z7
       have tlen:((S.H.ca.flatMap jI).take (q*3)).length=q*3:=by rw[List.length_take,lZ];omega
       have dlen:((S.H.ca.flatMap jI).drop (q*3)).length=(S.H.ca.length-q)*3:=by rw[List.length_drop,lZ];omega
       refine dA 27 [_,.r 1 ((aM fun _=>True)),_,_,_,_,.v (.slice S.H.ac S.H.ca.length S.H.cc),_,_,.r 9 ((aM fun _=>True)),_,_,_,.v (.agg #[.int .i64 (F:Int),.int .i64 (I:Int),.int .i64 (j:Int)]),.r 14 ((aM fun _=>True)),.r 15 ((aM fun _=>True)),_,_,_,_,.v (.slice S.H.ac S.H.ca.length S.H.cc),_,.r 22 ((aM fun v => ∃a e,v = .slice a (S.H.ca.length-q) e∧kD W8 a e (S.H.ca.length-q) ((S.H.ca.flatMap jI).drop (q*3)))),.r 23 ((aM fun _=>True)),_,_,_] (oL W8 q S.H.ca ⟨(F:Int),(I:Int),(j:Int)⟩) aU (fun y=>FP y) (Qk aU rfl (all_cons ?_ (Qk aU rfl (Qk aU rfl (Qf aU b 1 rfl rfl (Qf aU b 10 rfl rfl (all_cons ?_ (Qk aU rfl (Qr aU (.slice S.H.ac q S.H.cc) (fun ρ y W hKn=>(zK (W0:=W8) rfl (az rfl hKn) (az rfl hKn) hq Try.underlying37 cached_size sC).1) rfl rfl (all_cons ?_ (Qk aU rfl (Qk aU rfl (Qk aU rfl (all_cons ?_ (all_cons ?_ (all_cons ?_ (Qk aU rfl (Qk aU rfl (Qf aU b 1 rfl rfl (Qf aU b 10 rfl rfl (all_cons ?_ (Qk aU rfl (all_cons ?_ (all_cons ?_ (Qk aU rfl (Qf aU b 1 rfl rfl (Qf aU b 10 rfl rfl (all_nil)))))))))))))))))))))))))))) (fun _=>rfl) rfl ?_
       ·intro ρ y W L hw hn hLi hLd hb hd
        refine bi (.slice (some ⟨W.heap.size,0,none⟩) 0 0) (ah rfl) ?_ (FO hb) trivial
        simp[execOp,go_sem]
       ·intro ρ y W L hw hn hLi hLd hb hd
        refine bG aU (fun _ _ h=>h) hb ?_
        have E124:=hw 124 5 rfl
        have h5:y 5=_:=hd 5 rfl
        refine aj (.slice S.H.ac S.H.ca.length S.H.cc) (ah rfl) (by simp[execOp,go_sem,E124,h5,(hm9.below hb.1).blk.cell,dR,MW.frs,MW.lst]) rfl
       ·intro ρ y W L hw hn hLi hLd hb hd;have E120:=hw 120 1 rfl;have h1:=hd 1 rfl;have E127:=hw 127 8 rfl;have h8:y 8=_:=hd 8 rfl
        obtain⟨g,hg1,hg2⟩:=hb.2.2.2.1 (hLd 1 rfl) hLi
        refine dx (ah rfl) (pR _ _ _ rfl W8.heap.size 85 (.agg #[.int .i64 0,.int .i64 0,.int .i64 0]) 3 24 Try.underlying37 cached_info rfl (by decide) g (E120.trans hg1) hg2 S.H.ac q S.H.cc _ (E127.trans h8) sT.nl sT.le tlen (sT.below hb.1).rd (by unfold maxLen;omega) (by omega) hb.1.size) (fun v W1 h=>Ea hb h.1 h.2) (fun _ _ _=>trivial)
       ·intro ρ y W L hw hn hLi hLd hb hd
        refine bG aU (fun _ _ h=>h) hb ?_
        have E129:=hw 129 10 rfl
        have h10:y 10=_:=hd 10 rfl
        have E130:=hw 130 11 rfl
        have h11:y 11=_:=hd 11 rfl
        have E131:=hw 131 12 rfl
        have h12:y 12=_:=hd 12 rfl
        refine aj (.agg #[.int .i64 (F:Int),.int .i64 (I:Int),.int .i64 (j:Int)]) (ah rfl) (by simp[execOp,go_sem,E129,h10,E130,h11,E131,h12]) rfl
       ·intro ρ y W L hw hn hLi hLd hb hd;have E132:=hw 132 13 rfl;have h13:y 13=_:=hd 13 rfl
        refine bi (.slice (some ⟨W.heap.size,0,none⟩) 1 1) (ah rfl) ?_ (BO (W':=W.alloc (.cells (qN ⟨(F:Int),(I:Int),(j:Int)⟩) 85)) hb ((Below.refl _ _).alloc (Nat.le_refl _) _) ⟨Nat.le_refl _,by unfold maxLen;omega,fun e=>(by cases e),bW.new _ _ _⟩) trivial
        simp[execOp,go_sem,E132.trans h13,qN]
       ·intro ρ y W L hw hn hLi hLd hb hd;have E128:=hw 128 9 rfl;have h9:=hd 9 rfl;have E133:=hw 133 14 rfl;have h14:=hd 14 rfl
        obtain⟨a,e,hx1,hx2⟩:=hb.2.2.2.2.2.1 (hLd 14 rfl) hLi
        have hv:=hb.2.2.2.2.1 (hLd 9 rfl) hLi
        refine dx (ah rfl) (fH _ _ _ rfl W8.heap.size 85 (.agg #[.int .i64 0,.int .i64 0,.int .i64 0]) 3 24 Try.underlying37 cached_info rfl (by decide) (y 9) q _ E128 hv a 1 e _ (E133.trans hx1) hx2.nl hx2.le rfl hx2.rd (wZ _) (by unfold maxLen;omega) (by omega) hb.1.size) (fun v W1 h=>Cm hb hLi (hLd 9 rfl) h.2.1 h.1) (fun _ _ _=>trivial)
       ·intro ρ y W L hw hn hLi hLd hb hd
        refine bG aU (fun _ _ h=>h) hb ?_
        have E138:=hw 138 19 rfl
        have h19:y 19=_:=hd 19 rfl
        refine aj (.slice S.H.ac S.H.ca.length S.H.cc) (ah rfl) (by simp[execOp,go_sem,E138,h19,(hm9.below hb.1).blk.cell,dR,MW.frs,MW.lst]) rfl
       ·intro ρ y W L hw hn hLi hLd hb hd
        refine bG aU (fun _ _ h=>h) hb ?_
        have E139:=hw 139 20 rfl
        have h20:y 20=_:=hd 20 rfl
        have E140:=hw 140 21 rfl
        have h21:y 21=_:=hd 21 rfl
        exact zz (ah rfl) (zM (W0:=W8) rfl (E139.trans h20) (E140.trans h21) hq Try.underlying37 cached_size (lZ _) sC) (fun _ h=>h)
       ·intro ρ y W L hw hn hLi hLd hb hd;have E134:=hw 134 15 rfl;have h15:=hd 15 rfl;have E141:=hw 141 22 rfl;have h22:=hd 22 rfl
        obtain⟨a,e,hx1,hx2⟩:=h22
        have hv:=hb.2.2.2.2.2.2.1 (hLd 15 rfl) hLi
        refine dx (ah rfl) (fH _ _ _ rfl W8.heap.size 85 (.agg #[.int .i64 0,.int .i64 0,.int .i64 0]) 3 24 Try.underlying37 cached_info rfl (by decide) (y 15) (q+1) _ E134 hv a (S.H.ca.length-q) e _ (E141.trans hx1) hx2.nl hx2.le dlen (hx2.below hb.1).rd (fun u hu=>yf _ u (List.mem_of_mem_drop hu)) (by unfold maxLen;omega) (by omega) hb.1.size) (fun v W1 h=>Cs hb hLi (hLd 15 rfl) h.2.1 h.1) (fun _ _ _=>trivial)
       intro y W9 hbW9 hRW9
       have hy1:((aM fun _=>True)).r (y 1) W9:=hRW9 1 (by decide)
       have hy9:((aM fun _=>True)).r (y 9) W9:=hRW9 9 (by decide)
       have hy14:((aM fun _=>True)).r (y 14) W9:=hRW9 14 (by decide)
       have hy15:((aM fun _=>True)).r (y 15) W9:=hRW9 15 (by decide)
       have hy22:((aM fun v => ∃a e,v = .slice a (S.H.ca.length-q) e∧kD W8 a e (S.H.ca.length-q) ((S.H.ca.flatMap jI).drop (q*3)))).r (y 22) W9:=hRW9 22 (by decide)
       have hy23:((aM fun _=>True)).r (y 23) W9:=hRW9 23 (by decide)
       clear hRW9
       have hoC:=hbW9.2.2.2.2.2.2.2 rfl
       have hm10:=hm9.below hbW9.1
       have s10:=s9.below hbW9.1
       rw[rZ _ _ _ hq] at hoC
       have hlenI:Hid ((S.H.ca.insertIdx q (⟨(F:Int),(I:Int),(j:Int)⟩:Cc)).length=q+1+(S.H.ca.length-q)):=Lib.hid (by rw[List.length_insertIdx_of_le_length hq];omega)
       obtain⟨a9,c9,hv9,_⟩:=hoC.rd
       rw[hv9] at hoC ⊢
       have hge9:Hid (∀x,oB a9=some x→w.heap.size≤x):=Lib.hid fun x hx=>Nat.le_trans s9.size (gJ hoC hx).1
       have hoC:=hoC.mono (Nat.le_trans hm9.bs (Nat.le_refl _))
       clear hv9 hbW9 hm9 s9 sT sC tlen dlen h7 s7
       go_wp2_with (refine aA rfl _ _ _ rfl b 10 _ [.slice a9 (q+1+(S.H.ca.length-q)) c9] rfl rfl rfl _ _ hm10.blk (by show 10+1≤13;omega) (by kernel_rfl) (fun u hu=>by cases List.mem_singleton.1 hu;rfl) ?_)
       intro w11 hb11 hg11
       have hm12:=hm10.setC (l:=S.H.ca.insertIdx q ⟨(F:Int),(I:Int),(j:Int)⟩) (by rw[hlenI.out];exact hoC) (by rw[hlenI.out];exact hb11) hg11
       have s12:=s10.put (H':=_) hg11 (.inl rfl) (fun x (hx:gM b { ((S.lst a7 c7 l7).frs (S.H.m.fs.set j ⟨P2,1,u,d,(F:Int),(I:Int)⟩)) with H:={ ((S.lst a7 c7 l7).frs (S.H.m.fs.set j ⟨P2,1,u,d,(F:Int),(I:Int)⟩)).H with ac:=a9,cc:=c9,ca:=S.H.ca.insertIdx q ⟨(F:Int),(I:Int),(j:Int)⟩ } } x)=>by
        rcases hx with hx|hx
        ·exact .inl (.inl hx)
        ·simp only[dH,List.mem_cons,List.not_mem_nil,or_false] at hx
         rcases hx with hx|hx|hx|hx|hx|hx|hx|hx|hx
         ·exact .inl (.inr (by simp only[dH,List.mem_cons,List.not_mem_nil,or_false];exact .inl hx))
         ·exact .inl (.inr (by simp only[dH,List.mem_cons,List.not_mem_nil,or_false];exact .inr (.inl hx)))
         ·exact .inl (.inr (by simp only[dH,List.mem_cons,List.not_mem_nil,or_false];exact .inr (.inr (.inl hx))))
         ·exact .inl (.inr (by simp only[dH,List.mem_cons,List.not_mem_nil,or_false];exact .inr (.inr (.inr (.inl hx)))))
         ·exact .inl (.inr (by simp only[dH,List.mem_cons,List.not_mem_nil,or_false];exact .inr (.inr (.inr (.inr (.inl hx))))))
         ·exact .inl (.inr (by simp only[dH,List.mem_cons,List.not_mem_nil,or_false];exact .inr (.inr (.inr (.inr (.inr (.inl hx)))))))
         ·exact .inr (hge9.out x hx.symm)
         ·exact .inl (.inr (by simp only[dH,List.mem_cons,List.not_mem_nil,or_false];exact .inr (.inr (.inr (.inr (.inr (.inr (.inr (.inl hx)))))))))
         ·exact .inl (.inr (by simp only[dH,List.mem_cons,List.not_mem_nil,or_false];exact .inr (.inr (.inr (.inr (.inr (.inr (.inr (.inr hx))))))))))
       clear hm10 s10 hb11 hg11 hoC
       go_wp2
       go_ret
       have hbd:=hd'.out.cache (X:=⟨P2,1,u,d,(F:Int),(I:Int)⟩) hi'.out hno.out hj' hjr'.out ⟨rfl,rfl,rfl⟩ (by rw[hN'.out];exact hP2.out.1) hP2.out.2
       refine⟨j,_,rfl,hm12,s12,⟨rfl,rfl,rfl,rfl,List.length_set,rfl⟩,rfl,?_,.inr ⟨⟨(F:Int),(I:Int),(j:Int)⟩,(List.mem_insertIdx hq).2 (.inl rfl),rfl,rfl,rfl⟩⟩
       unfold oU at hbd
       rw[show zV S.H.ma.ca F I=q from hat.out] at hbd
       exact hbd
theorem ents_size:(Try.prog.info? 95).map (·.size)=some 192:=by kernel_rfl
theorem wh {cur:Array Value} {o d:Nat} {xs ys vs:List Value} (hlen:ys.length=xs.length) (hfit:o+xs.length≤cur.size) (hc:∀j u,xs[j]?=some u→cur[o+j]?=some u) (hd:d+vs.length≤xs.length)
  (hin:∀i,i<vs.length→ys[d+i]?=vs[i]?) (hout:∀i,(i<d∨d+vs.length≤i)→ys[i]?=xs[i]?):putAt cur (o+d) vs=putAt cur o ys:=by
 apply Array.ext_getElem?
 intro m
 by_cases h1:o≤m∧m<o+xs.length
 ·obtain⟨e,rfl⟩:∃e,m=o+e:=⟨m-o,by omega⟩
  obtain⟨u,hu⟩:∃u,ys[e]?=some u:=⟨_,List.getElem?_eq_getElem (by omega)⟩
  rw[putAt_in _ _ _ _ u (by omega) hu]
  by_cases h2:d≤e∧e<d+vs.length
  ·obtain⟨i,rfl⟩:∃i,e=d+i:=⟨e-d,by omega⟩
   rw[hin i (by omega)] at hu
   rw[←Nat.add_assoc]
   exact putAt_in _ _ _ _ u (by omega) hu
  ·rw[hout e (by omega)] at hu
   rw[putAt_out _ _ _ _ (by omega)]
   exact hc _ _ hu
 ·rw[putAt_out _ _ _ _ (by omega),putAt_out _ _ _ _ (by omega)]
theorem yn {cur:Array Value} {o:Nat} {X:Fr} (hfit:o+13≤cur.size) (hc:∀j u,(mD X)[j]?=some u→cur[o+j]?=some u):putAt cur (o+8) [.int .i64 (X.r+1)]=putAt cur o (mD (dS X)):=
 wh (xs:=mD X) rfl hfit hc (by show 8+1≤13;omega) (fun i hi=>by
  obtain rfl:i=0:=by simpa using hi
  rfl) (fun i hi=>by
  match i,hi with
  | 0,_=>rfl
  | 1,_=>rfl
  | 2,_=>rfl
  | 3,_=>rfl
  | 4,_=>rfl
  | 5,_=>rfl
  | 6,_=>rfl
  | 7,_=>rfl
  | 8,h=>exact absurd h (by show ¬(8<8∨8+1≤8);omega)
  | 9,_=>rfl
  | 10,_=>rfl
  | 11,_=>rfl
  | 12,_=>rfl
  | n+13,_=>rfl)
def Ju (S:MW) (p n:Nat) (B b:Nat) (w:World) (r:Ending) (w' : World):Prop:=∃S',r = .returned (.tuple #[])∧bR w' B b S'∧MS w b S w' S'∧yl S S'∧Bd S'.H.ma S'.T∧∀q j,¬(q=p∧j=n)→bZ S'.T q j=bZ S.T q j
theorem AQ (S:MW) (p n:Nat) (g:Pg) (B b:Nat) (w:World) (h:bR w B b S) (hd:Bd S.H.ma S.T) (hp:p<S.H.sp.length) (hn:n<64) (h0:(bZ S.T p n).k=0) (hg:onA (dM S.H.ma p).ar n=some g) (hfi:g.fi<S.H.fi.length) (hpg:0≤g.pg) (hsh:g.sh=true→0≤g.fi) :
  Calls Try.prog 76 #[.pointer (some ⟨b,0,none⟩),.int .i64 p,.int .i64 n,.agg #[.bool true,.bool g.rd,.bool g.wr,.bool g.sh,.int .i64 g.fi,.int .i64 g.pg]] w (Ju S p n B b w):=by
 obtain⟨grd,gwr,gsh,gfi,gpg⟩:=g
 dsimp only at hfi hpg hsh ⊢
 obtain⟨I,rfl⟩:=Int.eq_ofNat_of_zero_le hpg
 have hd':=Lib.hid hd
 have hg':=Lib.hid hg
 have h0':=Lib.hid h0
 have hBs:=Lib.hid h.bs
 clear hd hg h0 hpg
 go_enter Try.func76,Try.ntmps76
 go_upto_region 1 with (fail)
 refine eO (fun W=>Code.wp _ _ _ _ W) fun w1 hb1 bx1 hs1 => ?_
 have h1:=h.below hb1
 have s1:=(MS.refl w b S).below hb1
 have hn0:=Lib.hid (h.new (Nat.le_refl _))
 clear h hb1 hs1
 go_wp2_with fail
 refine (cB _ 4 B b _ h1 (by omega)).mono ?_
 rintro r w2 ⟨x,a2,c2,l2,rfl,h2,s2,hx,_⟩
 have bx2:=s2.blkN bx1 hn0.out
 have s2:=s1.trans s2
 clear h1 s1 bx1
 have hcx:=bx2.cell
 go_upto_region 5 with (fail)
 by_cases hx0:x=0
 ·subst hx0
  go_wp2
  refine bodyPost_ret (v:=.tuple #[]) (by simp[results,go_sem,Try.results76]) rfl ?_
  exact⟨_,rfl,h2,s2,⟨rfl,rfl,rfl,rfl,rfl,rfl⟩,hd'.out,fun _ _ _=>rfl⟩
 ·have hx0b:(x==0)=false:=by simp[hx0]
  go_upto_region 6 with (fail)
  go_cut [44] (fun s44 wx=>s44 = .bool (decide (0≤gfi∧(gsh=true∨x=1)))∧wx=w2)
  case first=>
   by_cases hf:0≤gfi
   ·cases gsh with
    | true=>
     go_wp2
     go_meet
     case rel=>exact⟨by simp[hf],rfl⟩
    | false=>
     by_cases hx1:x=1
     ·have hx1b:(x==1)=true:=by simp[hx1]
      have hx1':=Lib.hid hx1
      clear hx1
      go_wp2
      go_meet
      case rel=>exact⟨by rw[decide_eq_true ⟨hf,.inr hx1'.out⟩],rfl⟩
     ·have hx1b:(x==1)=false:=by simp[hx1]
      go_wp2
      go_meet
      case rel=>exact⟨by rw[decide_eq_false (by rintro⟨_,h | h⟩;cases h;exact hx1 h)],rfl⟩
   ·go_wp2
    go_meet
    case rel=>exact⟨by rw[decide_eq_false (fun h=>by have:=h.1;omega)],rfl⟩
  case rest=>
   obtain⟨rfl,hwc⟩:=hcut
   subst wc
   by_cases hF:0≤gfi∧(gsh=true∨x=1)
   ·rw[decide_eq_true hF]
    obtain⟨F,rfl⟩:=Int.eq_ofNat_of_zero_le hF.1
    have hFl:F<S.H.fi.length:=by omega
    obtain⟨p0,hp0⟩:∃p0,S.H.fi[F]?=some p0:=⟨_,List.getElem?_eq_getElem hFl⟩
    have hfa:Hid (fileAt S.H.ma.st (F:Int)=p0.fi):=Lib.hid (jf (by show (S.H.fi.map PF.fi)[F]?=_;rw[List.getElem?_map,hp0];rfl))
    obtain⟨bf,of,hai,hrd⟩:=fu ib (by decide) h2.ma.rd.st.rd F hFl
    have hai:S.H.ai=some ⟨bf,of,none⟩:=hai
    have hrd:bW w2 (some ⟨bf,of+F*2,none⟩) (mZ p0):=by rw[←(List.getElem?_eq_some_iff.1 hp0).2];exact hrd
    have rc1:∀W,Below w2.heap.size w2 W→W.cell? ⟨bf,of+F*2+1,none⟩=some (.slice p0.a p0.l.length p0.c):=fun W hb=>by
     obtain⟨b',o',e,hcc⟩:=(hrd.below hb) 1 _ rfl
     cases e
     exact hcc
    have hfi':=Lib.hid hfi
    clear hp0 hrd hfi
    go_upto_region 7 with (fail)
    by_cases hge:(p0.l.length:Int)≤(I:Int)
    ·skip
     refine aF 15 [_,_,_,_,_,_,_,_,_,_,_,_,_,_,_] (Gf w.heap.size 5 rfl rfl (Gl bx2 rfl rfl rfl rfl rfl (Gk rfl (Gk rfl (Gf b 1 rfl rfl (Gf b 8 rfl rfl (Gf b 8 rfl rfl (Gl h2.blk (V:=.slice (some ⟨bf,of,none⟩) S.H.fi.length S.H.ci) (by simp[dR,MW.lst,hai]) rfl rfl rfl rfl (Gf w.heap.size 4 rfl rfl (Gl bx2 rfl rfl rfl rfl rfl (Gr (.pointer (some ⟨bf,of+F*2,none⟩)) (fun ρ y W hb hKn=>(aT rfl (az rfl hKn) (az rfl hKn) hFl Try.underlying34 file_size)) rfl rfl (Gf bf (of+F*2+1) rfl rfl (Gc (.slice p0.a p0.l.length p0.c) (fun W hb=>by simp[rc1 _ hb]) rfl rfl rfl rfl (Gn rfl rfl rfl rfl (Gb (.bool true) (by simp[go_sem,hge]) rfl rfl rfl rfl rfl (all_nil)))))))))))))))) (fun _=>rfl) rfl ?_
     intro y W3 hbW3 _
     have h3:=h2.below hbW3
     have s3:=s2.below hbW3
     have bx3:=bx2.ext hbW3
     clear h2 s2 bx2 hcx hbW3 rc1 hai
     have hcx:=bx3.cell
     go_wp2
     refine bodyPost_ret (v:=.tuple #[]) (by simp[results,go_sem,Try.results76]) rfl ?_
     exact⟨_,rfl,h3,s3,⟨rfl,rfl,rfl,rfl,rfl,rfl⟩,hd'.out,fun _ _ _=>rfl⟩
    ·skip
     refine aF 15 [_,_,_,_,_,_,_,_,_,_,_,_,_,_,_] (Gf w.heap.size 5 rfl rfl (Gl bx2 rfl rfl rfl rfl rfl (Gk rfl (Gk rfl (Gf b 1 rfl rfl (Gf b 8 rfl rfl (Gf b 8 rfl rfl (Gl h2.blk (V:=.slice (some ⟨bf,of,none⟩) S.H.fi.length S.H.ci) (by simp[dR,MW.lst,hai]) rfl rfl rfl rfl (Gf w.heap.size 4 rfl rfl (Gl bx2 rfl rfl rfl rfl rfl (Gr (.pointer (some ⟨bf,of+F*2,none⟩)) (fun ρ y W hb hKn=>(aT rfl (az rfl hKn) (az rfl hKn) hFl Try.underlying34 file_size)) rfl rfl (Gf bf (of+F*2+1) rfl rfl (Gc (.slice p0.a p0.l.length p0.c) (fun W hb=>by simp[rc1 _ hb]) rfl rfl rfl rfl (Gn rfl rfl rfl rfl (Gb (.bool false) (by simp[go_sem,hge]) rfl rfl rfl rfl rfl (all_nil)))))))))))))))) (fun _=>rfl) rfl ?_
     intro y W3 hbW3 _
     have h3:=h2.below hbW3
     have s3:=s2.below hbW3
     have bx3:=bx2.ext hbW3
     clear h2 s2 bx2 hcx hbW3 rc1 hai
     have hcx:=bx3.cell
     go_wp2_with fail
     refine (yG _ F I B b _ h3 hd'.out ⟨⟨by omega,by simp[MH.ma,dP,MW.lst];omega⟩,by omega,by show (I:Int)<(fileAt S.H.ma.st (F:Int)).b.length;rw[hfa.out];show (I:Int)<p0.l.length;omega⟩).mono ?_
     rintro r w4 ⟨x3,S3,rfl,h4,s4,k4,t4,bd4,hx4⟩
     have bx4:=s4.blkN bx3 hn0.out
     have hn4:=Lib.hid (s4.not bx3.lt hn0.out)
     have s4:=s3.trans s4
     clear h3 s3 bx3 hcx
     have hcx:=bx4.cell
     rcases hx4 with rfl|⟨c,hcm,hcf,hci,rfl⟩
     ·go_wp2
      refine bodyPost_ret (v:=.tuple #[]) (by simp[results,go_sem,Try.results76]) rfl ?_
      exact⟨S3,rfl,h4,s4,⟨k4.sp,k4.fi,k4.ct,k4.dk,k4.fl,k4.sl⟩,bd4,fun _ _ _=>by rw[t4];rfl⟩
     ·have hlt:=bd4.rt.ca.lt c hcm
      obtain⟨f,hfk⟩:=Int.eq_ofNat_of_zero_le hlt.1
      have hfl:f<S3.H.m.fs.length:=by have e:((bN S3.H.ma S3.T).m.fs.length:Nat)=S3.H.m.fs.length:=rfl;omega
      have hcm':=Lib.hid (And.intro hcm (And.intro hcf hci))
      have hfk':=Lib.hid hfk
      rw[hfk]
      clear hlt hcm hcf hci hfk
      obtain⟨gf,off,cap,cur,hv,hgB,hgk,hgs,hgc,hgw⟩:=h4.ma.fr.put eu (by decide) f hfl
      have haf:S3.H.af=some ⟨gf,off,none⟩:=(Value.slice.inj hv).1
      have hX:Hid (dL S3.H.ma f=S3.H.m.fs[f]):=Lib.hid (by
       unfold dL
       show S3.H.m.fs.getD f fr0=_
       rw[List.getD_eq_getElem?_getD,List.getElem?_eq_getElem (by omega)];rfl)
      have hr0:=bd4.rt.fewR (f:=f) hfl
      have hr1:0≤(S3.H.m.fs[f]).r∧(S3.H.m.fs[f]).r≤257:=by rw[←hX.out];exact hr0
      have c8:w4.cell? ⟨gf,off+f*13+8,none⟩=some (.int .i64 (S3.H.m.fs[f]).r):=hgc 8 _ rfl
      have hgw':=Lib.hid hgw
      have hgc':=Lib.hid hgc
      clear hv hgw hgc hr0
      generalize S3.H.m.fs[f]=X at c8 hX hr1 hgc'
      have hc:=h4.blk.cell
      unfold dR at hc
      rw[haf] at hc
      have hwr:IntKind.i64.wrap (X.r+1)=X.r+1:=IntWalk.i64_in _ (by omega)
      have hfi2:(f:Int)<(S3.H.m.fs.length:Int):=by omega
      go_wp2_with (refine aA rfl _ _ _ rfl gf (off+f*13+8) _ [.int .i64 (X.r+1)] rfl rfl rfl _ _ hgk (by show off+f*13+8+1≤cur.size;omega) (by kernel_rfl) (fun u hu=>by cases List.mem_singleton.1 hu;rfl) ?_)
      intro w5 hb5 hg5
      rw[yn (by omega) (fun j u hj=>by rw[←hgk.cell];exact hgc'.out j u hj)] at hb5
      have h5:bR w5 B b (S3.frs (S3.H.m.fs.set f (dS X))):=h4.putF hgk hgB hg5 (fs:=S3.H.m.fs.set f (dS X)) (by simp) (by simpa using hgw'.out _ _ hb5)
      have hkaf:gM b S3 gf:=.inr (by simp only[dH,haf];exact List.mem_cons_self)
      have s5:=s4.put (H':=S3.frs (S3.H.m.fs.set f (dS X))) hg5 hkaf (fun x hx => .inl hx)
      have bx5:=bx4.grown hg5 (fun e=>hn4.out (by rw[←Option.some.inj e];exact hkaf))
      have hn5:Hid (¬gM b (S3.frs (S3.H.m.fs.set f (dS X))) w.heap.size):=hn4
      have hTl:S3.T.length=S.H.sp.length:=by have:=bd4.ok.len;rw[this];show (S3.H.sp.map PS.sp).length=_;rw[List.length_map,k4.sp];rfl
      have hpT:p<S3.T.length:=by omega
      have hTn:∀(S' : MW),S'.T=S3.T→(bY S'.T p).length=64:=fun S' e=>by rw[e];exact bd4.ok.l64 (by rw[←bd4.ok.len];exact hpT)
      have hsp4:dM S3.H.ma p=dM S.H.ma p:=by
       show (S3.H.sp.map PS.sp).getD p zSp=(S.H.sp.map PS.sp).getD p zSp
       rw[k4.sp];rfl
      have hp4:p<S3.H.ma.sp.length:=by show p<(S3.H.sp.map PS.sp).length;rw[List.length_map,k4.sp];exact hp
      have hbdu:Hid (∀u:Bool,(u=true→gsh=true∧gwr=true)→Bd (S3.frs (S3.H.m.fs.set f (dS X))).H.ma (aW (S3.frs (S3.H.m.fs.set f (dS X))).T p n ⟨1,f,u⟩)):=Lib.hid fun u hu=>by
       have h9:=bd4.cachedE (w:=u) hp4 hn (by rw[t4];exact h0'.out) hcm'.out.1 (by rw[hsp4];exact hg'.out) hcm'.out.2 hu
       rw[hfk'.out,Int.toNat_natCast,hX.out] at h9
       exact h9
      have hK5:Hid (yl S (S3.frs (S3.H.m.fs.set f (dS X)))):=Lib.hid ⟨k4.sp,k4.fi,k4.ct,k4.dk,by show (S3.H.m.fs.set f (dS X)).length=_;rw[List.length_set];exact k4.fl,k4.sl⟩
      have hent5:Hid (∀x q j,¬(q=p∧j=n)→bZ (aW (S3.frs (S3.H.m.fs.set f (dS X))).T p n x) q j=bZ S.T q j):=Lib.hid fun x q j hne=>by
       show bZ (aW S3.T p n x) q j=_
       rw[nA bd4.ok hp4 hn,if_neg hne,t4];rfl
      have hpT5:Hid (p<(S3.frs (S3.H.m.fs.set f (dS X))).T.length):=Lib.hid hpT
      have hTn5:Hid (∀S' : MW,S'.T=(S3.frs (S3.H.m.fs.set f (dS X))).T→(bY S'.T p).length=64):=Lib.hid hTn
      generalize S3.frs (S3.H.m.fs.set f (dS X))=S5 at *
      obtain⟨gT,oT,_,hab,_⟩:=bR.ent (S:=S5) h5 (p:=p) (n:=n) hpT5.out hn (hTn5.out _ rfl)
      clear hsp4 hp4 hpT hTn hTl
      clear h4 s4 bx4 hcx hc c8 hb5 hg5 hgk hgc' hgw' hgs haf
      go_upto_region 11 with (fail)
      cases gsh with
      | true=>cases gwr with
       | true=>
        skip
        refine dA 20 [_,_,_,.v (.slice (some ⟨gT,oT,none⟩) S5.T.length S5.cb),_,.v (.int .i64 (n:Int)),_,_,.v (.bool true),_,_,.v (.bool true),_,_,_,.r 15 ((aM fun v => ∃x:Int,v = .int .i64 x∧0≤x)),.r 16 ((aM fun v => ∃u,v = .bool u)),.r 17 ((aM fun v => ∃u,(u=true→true=true)∧v = .bool u)),.r 18 ((aM fun v => ∃u,(u=true→true=true)∧v = .agg #[.int .i64 1,.int .i64 (f:Int),.bool u])),_] (Ba S5 B b w5 [(w.heap.size,#[.bool true,.bool grd,.bool true,.bool true,.int .i64 (F:Int),.int .i64 (I:Int)],106)]) ay (fun _=>⟨S5.al,S5.cl,S5.l,h5,MS.refl _ _ _,by simpa using ⟨bx5,hn5.out⟩⟩) (Qk ay rfl (Qk ay rfl (Qf ay b 12 rfl rfl (all_cons ?_ (Qk ay rfl (Qk ay rfl (Qk ay rfl (Qf ay w.heap.size 3 rfl rfl (all_cons ?_ (Qk ay rfl (Qf ay w.heap.size 2 rfl rfl (all_cons ?_ (Qk ay rfl (Qk ay rfl (Qk ay rfl (all_cons ?_ (all_cons ?_ (all_cons ?_ (all_cons ?_ (Qr ay (.pointer (some ⟨gT,oT+p*192,none⟩)) (fun ρ y W hKn=>(aT rfl (az rfl hKn) (az rfl hKn) hpT5.out Try.underlying87 ents_size)) rfl rfl (all_nil))))))))))))))))))))) (fun _=>rfl) rfl ?_
        ·intro ρ y W L hw hn hLi hLd hb hd
         refine bG ay (fun _ _ h=>h) hb ?_
         have E94:=hw 94 2 rfl
         have h2:y 2=_:=hd 2 rfl
         obtain⟨a,c,l,m1,m2,m3⟩:=hb
         refine aj (.slice (some ⟨gT,oT,none⟩) S5.T.length S5.cb) (ah rfl) (by simp[execOp,go_sem,E94,h2,m1.blk.cell,dR,MW.lst,hab]) rfl
        ·intro ρ y W L hw hn hLi hLd hb hd
         refine bG ay (fun _ _ h=>h) hb ?_
         have E99:=hw 99 7 rfl
         have h7:y 7=_:=hd 7 rfl
         obtain⟨a,c,l,m1,m2,m3⟩:=hb
         have m3:=(m3 _ (List.mem_singleton.2 rfl)).1
         refine aj (.bool true) (ah rfl) (by simp[execOp,go_sem,E99,h7,m3.cell]) rfl
        ·intro ρ y W L hw hn hLi hLd hb hd
         refine bG ay (fun _ _ h=>h) hb ?_
         have E102:=hw 102 10 rfl
         have h10:y 10=_:=hd 10 rfl
         obtain⟨a,c,l,m1,m2,m3⟩:=hb
         have m3:=(m3 _ (List.mem_singleton.2 rfl)).1
         refine aj (.bool true) (aL 9 101 true true rfl rfl ((hw 101 9 rfl).trans (hd 9 rfl))) (by simp[execOp,go_sem,E102,h10,m3.cell]) rfl
        ·intro ρ y W L hw hn hLi hLd hb hd;have E106:=hw 106 14 rfl;have h14:y 14=_:=hd 14 rfl
         have EC:∀v,ρ (.const v)=v:=fun v=>hn (.const v) trivial
         have EF:∀f,ρ (.func f) = .func (.func f) #[] #[]:=fun f=>hn (.func f) trivial
         refine dK _ _ (aL 13 105 true true rfl rfl ((hw 105 13 rfl).trans (hd 13 rfl))) (aN rfl (EF _) Try.func28 (by kernel_rfl) (by kernel_rfl) (by simp only[List.map_toArray,List.map_cons,List.map_nil,E106,h14,EC,EF];rfl)) ?_
         exact qC 2 (by omega) hb fun x h1 _ _ _=>⟨x,rfl,h1⟩
        ·intro ρ y W L hw hn hLi hLd hb hd
         refine bG ay (fun _ _ h=>h) hb ?_
         have E107:=hw 107 15 rfl
         have h15:=hd 15 rfl
         obtain⟨x,hx,_⟩:=h15
         refine aj _ (aL 13 105 true true rfl rfl ((hw 105 13 rfl).trans (hd 13 rfl))) (jo rfl (E107.trans hx) (hn (.const _) trivial) (by simp[go_sem];rfl)) ⟨_,rfl⟩
        ·intro ρ y W L hw hn hLi hLd hb hd
         refine bG ay (fun _ _ h=>h) hb ?_
         have E105:=hw 105 13 rfl
         have h13:y 13=_:=hd 13 rfl
         have E108:=hw 108 16 rfl
         have h16:=hd 16 rfl
         obtain⟨u,hu⟩:=h16
         refine aj (.bool u) (ah rfl) (jw rfl (E105.trans h13) (by simpa using E108.trans hu)) ⟨_,fun _=>rfl,rfl⟩
        ·intro ρ y W L hw hn hLi hLd hb hd
         refine bG ay (fun _ _ h=>h) hb ?_
         have E98:=hw 98 6 rfl
         have h6:y 6=_:=hd 6 rfl
         have E109:=hw 109 17 rfl
         have h17:=hd 17 rfl
         obtain⟨u,hu1,hu⟩:=h17
         have EC:∀v,ρ (.const v)=v:=fun v=>hn (.const v) trivial
         refine aj (.agg #[.int .i64 1,.int .i64 (f:Int),.bool u]) (ah rfl) (by simp[execOp,go_sem,E98,h6,E109,EC,hu]) ⟨u,hu1,rfl⟩
        intro y W6 hbW6 hRW6
        have hy15:((aM fun v => ∃x:Int,v = .int .i64 x∧0≤x)).r (y 15) W6:=hRW6 15 (by decide)
        have hy16:((aM fun v => ∃u,v = .bool u)).r (y 16) W6:=hRW6 16 (by decide)
        have hy17:((aM fun v => ∃u,(u=true→true=true)∧v = .bool u)).r (y 17) W6:=hRW6 17 (by decide)
        have hy18:((aM fun v => ∃u,(u=true→true=true)∧v = .agg #[.int .i64 1,.int .i64 (f:Int),.bool u])).r (y 18) W6:=hRW6 18 (by decide)
        clear hRW6
        obtain⟨a6,c6,l6,h6,s6,_⟩:=hbW6
        obtain⟨u,hu1,hu⟩:=hy18
        rw[hu]
        clear hu
        obtain⟨gT',oT',curT,hab',hgTB,hgT,hgTs,_,hgTw⟩:=bR.ent (S:=S5.lst a6 c6 l6) h6 (p:=p) (n:=n) hpT5.out hn (hTn5.out _ rfl)
        have e9:(some (⟨gT',oT',none⟩:Addr))=some ⟨gT,oT,none⟩:=hab'.symm.trans hab
        cases e9
        have hpTi:(p:Int)<(S5.T.length:Int):=by have:=hpT5.out;omega
        have hni:(n:Int)<64:=by omega
        have hgTw':=Lib.hid hgTw
        have s6:=s5.trans s6
        clear hgTw hab' h5 s5
        go_wp2_with (refine aA rfl _ _ _ rfl gT (oT+p*192+n*3) _ (iC ⟨1,f,u⟩) rfl rfl rfl _ _ hgT (by rw[di];exact hgTs) (by kernel_rfl) (aZ (ed _)) ?_)
        intro w7 hb7 hg7
        have h7:=hgTw'.out w7 ⟨1,f,u⟩ hb7 hg7
        have s7:=s6.put (H':={ S5.lst a6 c6 l6 with T:=aW (S5.lst a6 c6 l6).T p n ⟨1,f,u⟩ }) hg7 (.inr (by simp only[dH,MW.lst,hab];simp[oB];right;right;right;right;right;right;right;right;rfl)) (fun x hx => .inl hx)
        clear hgT hb7 hg7 h6 s6
        go_wp2
        refine bodyPost_ret (v:=.tuple #[]) (by simp[results,go_sem,Try.results76]) rfl ?_
        exact⟨_,rfl,h7,s7,⟨hK5.out.sp,hK5.out.fi,hK5.out.ct,hK5.out.dk,hK5.out.fl,hK5.out.sl⟩,hbdu.out u (fun h=>by first | exact trivial | exact⟨rfl,rfl⟩ | exact absurd (hu1 h) (by decide) | simp),hent5.out _⟩
       | false=>
        skip
        refine dA 20 [_,_,_,.v (.slice (some ⟨gT,oT,none⟩) S5.T.length S5.cb),_,.v (.int .i64 (n:Int)),_,_,.v (.bool true),_,_,.v (.bool false),_,_,_,_,_,.r 17 ((aM fun v => ∃u,(u=true→false=true)∧v = .bool u)),.r 18 ((aM fun v => ∃u,(u=true→false=true)∧v = .agg #[.int .i64 1,.int .i64 (f:Int),.bool u])),_] (Ba S5 B b w5 [(w.heap.size,#[.bool true,.bool grd,.bool false,.bool true,.int .i64 (F:Int),.int .i64 (I:Int)],106)]) ay (fun _=>⟨S5.al,S5.cl,S5.l,h5,MS.refl _ _ _,by simpa using ⟨bx5,hn5.out⟩⟩) (Qk ay rfl (Qk ay rfl (Qf ay b 12 rfl rfl (all_cons ?_ (Qk ay rfl (Qk ay rfl (Qk ay rfl (Qf ay w.heap.size 3 rfl rfl (all_cons ?_ (Qk ay rfl (Qf ay w.heap.size 2 rfl rfl (all_cons ?_ (Qk ay rfl (Qk ay rfl (Qk ay rfl (Qk ay rfl (Qk ay rfl (all_cons ?_ (all_cons ?_ (Qr ay (.pointer (some ⟨gT,oT+p*192,none⟩)) (fun ρ y W hKn=>(aT rfl (az rfl hKn) (az rfl hKn) hpT5.out Try.underlying87 ents_size)) rfl rfl (all_nil))))))))))))))))))))) (fun _=>rfl) rfl ?_
        ·intro ρ y W L hw hn hLi hLd hb hd
         refine bG ay (fun _ _ h=>h) hb ?_
         have E94:=hw 94 2 rfl
         have h2:y 2=_:=hd 2 rfl
         obtain⟨a,c,l,m1,m2,m3⟩:=hb
         refine aj (.slice (some ⟨gT,oT,none⟩) S5.T.length S5.cb) (ah rfl) (by simp[execOp,go_sem,E94,h2,m1.blk.cell,dR,MW.lst,hab]) rfl
        ·intro ρ y W L hw hn hLi hLd hb hd
         refine bG ay (fun _ _ h=>h) hb ?_
         have E99:=hw 99 7 rfl
         have h7:y 7=_:=hd 7 rfl
         obtain⟨a,c,l,m1,m2,m3⟩:=hb
         have m3:=(m3 _ (List.mem_singleton.2 rfl)).1
         refine aj (.bool true) (ah rfl) (by simp[execOp,go_sem,E99,h7,m3.cell]) rfl
        ·intro ρ y W L hw hn hLi hLd hb hd
         refine bG ay (fun _ _ h=>h) hb ?_
         have E102:=hw 102 10 rfl
         have h10:y 10=_:=hd 10 rfl
         obtain⟨a,c,l,m1,m2,m3⟩:=hb
         have m3:=(m3 _ (List.mem_singleton.2 rfl)).1
         refine aj (.bool false) (aL 9 101 true true rfl rfl ((hw 101 9 rfl).trans (hd 9 rfl))) (by simp[execOp,go_sem,E102,h10,m3.cell]) rfl
        ·intro ρ y W L hw hn hLi hLd hb hd
         refine bG ay (fun _ _ h=>h) hb ?_
         have E105:=hw 105 13 rfl
         have h13:y 13=_:=hd 13 rfl
         have E108:=hw 108 16 rfl
         have h16:y 16=_:=hd 16 rfl
         refine aj (.bool false) (ah rfl) (jw rfl (E105.trans h13) (by exact (hn (.const _) trivial).trans rfl)) ⟨false,fun h=>(by cases h),rfl⟩
        ·intro ρ y W L hw hn hLi hLd hb hd
         refine bG ay (fun _ _ h=>h) hb ?_
         have E98:=hw 98 6 rfl
         have h6:y 6=_:=hd 6 rfl
         have E109:=hw 109 17 rfl
         have h17:=hd 17 rfl
         obtain⟨u,hu1,hu⟩:=h17
         have EC:∀v,ρ (.const v)=v:=fun v=>hn (.const v) trivial
         refine aj (.agg #[.int .i64 1,.int .i64 (f:Int),.bool u]) (ah rfl) (by simp[execOp,go_sem,E98,h6,E109,EC,hu]) ⟨u,hu1,rfl⟩
        intro y W6 hbW6 hRW6
        have hy17:((aM fun v => ∃u,(u=true→false=true)∧v = .bool u)).r (y 17) W6:=hRW6 17 (by decide)
        have hy18:((aM fun v => ∃u,(u=true→false=true)∧v = .agg #[.int .i64 1,.int .i64 (f:Int),.bool u])).r (y 18) W6:=hRW6 18 (by decide)
        clear hRW6
        obtain⟨a6,c6,l6,h6,s6,_⟩:=hbW6
        obtain⟨u,hu1,hu⟩:=hy18
        rw[hu]
        clear hu
        obtain⟨gT',oT',curT,hab',hgTB,hgT,hgTs,_,hgTw⟩:=bR.ent (S:=S5.lst a6 c6 l6) h6 (p:=p) (n:=n) hpT5.out hn (hTn5.out _ rfl)
        have e9:(some (⟨gT',oT',none⟩:Addr))=some ⟨gT,oT,none⟩:=hab'.symm.trans hab
        cases e9
        have hpTi:(p:Int)<(S5.T.length:Int):=by have:=hpT5.out;omega
        have hni:(n:Int)<64:=by omega
        have hgTw':=Lib.hid hgTw
        have s6:=s5.trans s6
        clear hgTw hab' h5 s5
        go_wp2_with (refine aA rfl _ _ _ rfl gT (oT+p*192+n*3) _ (iC ⟨1,f,u⟩) rfl rfl rfl _ _ hgT (by rw[di];exact hgTs) (by kernel_rfl) (aZ (ed _)) ?_)
        intro w7 hb7 hg7
        have h7:=hgTw'.out w7 ⟨1,f,u⟩ hb7 hg7
        have s7:=s6.put (H':={ S5.lst a6 c6 l6 with T:=aW (S5.lst a6 c6 l6).T p n ⟨1,f,u⟩ }) hg7 (.inr (by simp only[dH,MW.lst,hab];simp[oB];right;right;right;right;right;right;right;right;rfl)) (fun x hx => .inl hx)
        clear hgT hb7 hg7 h6 s6
        go_wp2
        refine bodyPost_ret (v:=.tuple #[]) (by simp[results,go_sem,Try.results76]) rfl ?_
        exact⟨_,rfl,h7,s7,⟨hK5.out.sp,hK5.out.fi,hK5.out.ct,hK5.out.dk,hK5.out.fl,hK5.out.sl⟩,hbdu.out u (fun h=>by first | exact trivial | exact⟨rfl,rfl⟩ | exact absurd (hu1 h) (by decide) | simp),hent5.out _⟩
      | false=>
       skip
       refine dA 20 [_,_,_,.v (.slice (some ⟨gT,oT,none⟩) S5.T.length S5.cb),_,.v (.int .i64 (n:Int)),_,_,.v (.bool false),_,_,_,_,_,_,_,_,.r 17 ((aM fun v => ∃u,(u=true→false=true)∧v = .bool u)),.r 18 ((aM fun v => ∃u,(u=true→false=true)∧v = .agg #[.int .i64 1,.int .i64 (f:Int),.bool u])),_] (Ba S5 B b w5 [(w.heap.size,#[.bool true,.bool grd,.bool gwr,.bool false,.int .i64 (F:Int),.int .i64 (I:Int)],106)]) ay (fun _=>⟨S5.al,S5.cl,S5.l,h5,MS.refl _ _ _,by simpa using ⟨bx5,hn5.out⟩⟩) (Qk ay rfl (Qk ay rfl (Qf ay b 12 rfl rfl (all_cons ?_ (Qk ay rfl (Qk ay rfl (Qk ay rfl (Qf ay w.heap.size 3 rfl rfl (all_cons ?_ (Qk ay rfl (Qk ay rfl (Qk ay rfl (Qk ay rfl (Qk ay rfl (Qk ay rfl (Qk ay rfl (Qk ay rfl (all_cons ?_ (all_cons ?_ (Qr ay (.pointer (some ⟨gT,oT+p*192,none⟩)) (fun ρ y W hKn=>(aT rfl (az rfl hKn) (az rfl hKn) hpT5.out Try.underlying87 ents_size)) rfl rfl (all_nil))))))))))))))))))))) (fun _=>rfl) rfl ?_
       ·intro ρ y W L hw hn hLi hLd hb hd
        refine bG ay (fun _ _ h=>h) hb ?_
        have E94:=hw 94 2 rfl
        have h2:y 2=_:=hd 2 rfl
        obtain⟨a,c,l,m1,m2,m3⟩:=hb
        refine aj (.slice (some ⟨gT,oT,none⟩) S5.T.length S5.cb) (ah rfl) (by simp[execOp,go_sem,E94,h2,m1.blk.cell,dR,MW.lst,hab]) rfl
       ·intro ρ y W L hw hn hLi hLd hb hd
        refine bG ay (fun _ _ h=>h) hb ?_
        have E99:=hw 99 7 rfl
        have h7:y 7=_:=hd 7 rfl
        obtain⟨a,c,l,m1,m2,m3⟩:=hb
        have m3:=(m3 _ (List.mem_singleton.2 rfl)).1
        refine aj (.bool false) (ah rfl) (by simp[execOp,go_sem,E99,h7,m3.cell]) rfl
       ·intro ρ y W L hw hn hLi hLd hb hd
        refine bG ay (fun _ _ h=>h) hb ?_
        have E105:=hw 105 13 rfl
        have h13:y 13=_:=hd 13 rfl
        have E108:=hw 108 16 rfl
        have h16:y 16=_:=hd 16 rfl
        refine aj (.bool false) (ah rfl) (jw rfl (E105.trans h13) (by exact (hn (.const _) trivial).trans rfl)) ⟨false,fun h=>(by cases h),rfl⟩
       ·intro ρ y W L hw hn hLi hLd hb hd
        refine bG ay (fun _ _ h=>h) hb ?_
        have E98:=hw 98 6 rfl
        have h6:y 6=_:=hd 6 rfl
        have E109:=hw 109 17 rfl
        have h17:=hd 17 rfl
        obtain⟨u,hu1,hu⟩:=h17
        have EC:∀v,ρ (.const v)=v:=fun v=>hn (.const v) trivial
        refine aj (.agg #[.int .i64 1,.int .i64 (f:Int),.bool u]) (ah rfl) (by simp[execOp,go_sem,E98,h6,E109,EC,hu]) ⟨u,hu1,rfl⟩
       intro y W6 hbW6 hRW6
       have hy17:((aM fun v => ∃u,(u=true→false=true)∧v = .bool u)).r (y 17) W6:=hRW6 17 (by decide)
       have hy18:((aM fun v => ∃u,(u=true→false=true)∧v = .agg #[.int .i64 1,.int .i64 (f:Int),.bool u])).r (y 18) W6:=hRW6 18 (by decide)
       clear hRW6
       obtain⟨a6,c6,l6,h6,s6,_⟩:=hbW6
       obtain⟨u,hu1,hu⟩:=hy18
       rw[hu]
       clear hu
       obtain⟨gT',oT',curT,hab',hgTB,hgT,hgTs,_,hgTw⟩:=bR.ent (S:=S5.lst a6 c6 l6) h6 (p:=p) (n:=n) hpT5.out hn (hTn5.out _ rfl)
       have e9:(some (⟨gT',oT',none⟩:Addr))=some ⟨gT,oT,none⟩:=hab'.symm.trans hab
       cases e9
       have hpTi:(p:Int)<(S5.T.length:Int):=by have:=hpT5.out;omega
       have hni:(n:Int)<64:=by omega
       have hgTw':=Lib.hid hgTw
       have s6:=s5.trans s6
       clear hgTw hab' h5 s5
       go_wp2_with (refine aA rfl _ _ _ rfl gT (oT+p*192+n*3) _ (iC ⟨1,f,u⟩) rfl rfl rfl _ _ hgT (by rw[di];exact hgTs) (by kernel_rfl) (aZ (ed _)) ?_)
       intro w7 hb7 hg7
       have h7:=hgTw'.out w7 ⟨1,f,u⟩ hb7 hg7
       have s7:=s6.put (H':={ S5.lst a6 c6 l6 with T:=aW (S5.lst a6 c6 l6).T p n ⟨1,f,u⟩ }) hg7 (.inr (by simp only[dH,MW.lst,hab];simp[oB];right;right;right;right;right;right;right;right;rfl)) (fun x hx => .inl hx)
       clear hgT hb7 hg7 h6 s6
       go_wp2
       refine bodyPost_ret (v:=.tuple #[]) (by simp[results,go_sem,Try.results76]) rfl ?_
       exact⟨_,rfl,h7,s7,⟨hK5.out.sp,hK5.out.fi,hK5.out.ct,hK5.out.dk,hK5.out.fl,hK5.out.sl⟩,hbdu.out u (fun h=>by first | exact trivial | exact⟨rfl,rfl⟩ | exact absurd (hu1 h) (by decide) | simp),hent5.out _⟩
   ·rw[decide_eq_false hF]
    obtain rfl:gsh=false:=by
     cases gsh with
     | false=>rfl
     | true=>exact absurd ⟨hsh rfl,.inl rfl⟩ hF
    have hfew:=Lib.hid hd'.out.few
    have hsl60:S.H.sl.length≤60:=hfew.out.2.1
    have hc:=h2.blk.cell
    unfold dR at hc
    dsimp only[MW.lst] at hc
    clear hF hsh
    go_upto_region 12 with (fail)
    go_cut [113] (fun s113 wx=>s113 = .bool (decide (x=2∧0<S.H.sl.length))∧wx=w2)
    case first=>
     by_cases hx2:x=2
     ·have hx2b:(x==2)=true:=by simp[hx2]
      have hx2':=Lib.hid hx2
      clear hx2
      by_cases hsl:0<S.H.sl.length
      ·have hsli:(0:Int)<(S.H.sl.length:Int):=by omega
       go_wp2
       go_meet
       case rel=>exact⟨by rw[decide_eq_true ⟨hx2'.out,hsl⟩],rfl⟩
      ·have hsli:¬(0:Int)<(S.H.sl.length:Int):=by omega
       go_wp2
       go_meet
       case rel=>exact⟨by rw[decide_eq_false (fun h=>hsl h.2)],rfl⟩
     ·have hx2b:(x==2)=false:=by simp[hx2]
      go_wp2
      go_meet
      case rel=>exact⟨by rw[decide_eq_false (fun h=>hx2 h.1)],rfl⟩
    case rest=>
     obtain⟨rfl,hwc⟩:=hcut
     subst wc
     by_cases hS:x=2∧0<S.H.sl.length
     ·rw[decide_eq_true hS]
      have hsl:=hS.2
      clear hS
      go_wp2_with fail
      refine (cB _ _ B b _ h2 (by omega)).mono ?_
      rintro r w3 ⟨y3,a3,c3,l3,rfl,h3,s3,hy3,_⟩
      rw[iJ] at h3 s3
      have s3:=s2.trans s3
      obtain⟨s0,rfl⟩:=Int.eq_ofNat_of_zero_le hy3.1
      have hs0:s0<S.H.sl.length:=by omega
      have hs0i:(s0:Int)<(S.H.sl.length:Int):=by omega
      clear h2 s2 bx2 hcx hc hy3
      have hc:=h3.blk.cell
      unfold dR at hc
      dsimp only[MW.lst] at hc
      obtain⟨gs,off,cap,cur,hv,hgB,hgk,hgs,hgc,hgw⟩:=Own.put (enc:=fun x=>[eU x]) (sz:=1) (l:=S.H.sl) (fun _=>rfl) Nat.one_pos (by rw[ku];exact h3.ma.sl) s0 hs0
      have has:S.H.asl=some ⟨gs,off,none⟩:=(Value.slice.inj hv).1
      rw[has] at hc
      rw[Nat.mul_one] at hgs hgc hgw
      have c0:w3.cell? ⟨gs,off+s0,none⟩=some (.int .i64 S.H.sl[s0]):=hgc 0 _ rfl
      have hz0:Hid (kL S.H.ma s0=S.H.sl[s0]):=Lib.hid (by
       unfold kL
       show S.H.sl.getD s0 0=_
       rw[List.getD_eq_getElem?_getD,List.getElem?_eq_getElem hs0];rfl)
      have hgw':=Lib.hid hgw
      clear hv hgw hgc
      generalize S.H.sl[s0]=v0 at c0 hz0
      by_cases hz:v0=0
      ·subst hz
       go_wp2_with (refine aA rfl _ _ _ rfl gs (off+s0) _ [.int .i64 1] rfl rfl rfl _ _ hgk (by show off+s0+1≤cur.size;omega) (by kernel_rfl) (fun u hu=>by cases List.mem_singleton.1 hu;rfl) ?_)
       intro w4 hb4 hg4
       have hga:oB (S.lst a3 c3 l3).H.asl=some gs:=by show oB S.H.asl=some gs;rw[has];rfl
       have h4:bR w4 B b { S.lst a3 c3 l3 with H:={ S.H with sl:=S.H.sl.set s0 1 } }:=h3.putS hgk hgB hga hg4 (sl:=S.H.sl.set s0 1) (by simp[MW.lst]) (by
        have:=hgw'.out w4 1 hb4
        rw[ku] at this
        simpa[MW.lst] using this)
       have s4:=s3.put (H':={ S.lst a3 c3 l3 with H:={ S.H with sl:=S.H.sl.set s0 1 } }) hg4 (.inr (by simp[dH,hga])) (fun x hx => .inl hx)
       have hswl:S.H.sw.blocks.length=S.H.sl.length:=hfew.out.2.2.2.2.2.2.2
       have hK4:Hid (yl S { S.lst a3 c3 l3 with H:={ S.H with sl:=S.H.sl.set s0 1 } }):=Lib.hid ⟨rfl,rfl,rfl,rfl,rfl,List.length_set⟩
       have hTl:S.T.length=S.H.sp.length:=by have:=hd'.out.ok.len;rw[this];exact List.length_map _
       have hpT:p<S.T.length:=by omega
       have h64:(bY S.T p).length=64:=hd'.out.ok.l64 (by rw[←hd'.out.ok.len];exact hpT)
       have hbdu:Hid (∀P,Bd { S.H.ma with sl:=S.H.sl.set s0 1,sw:=⟨S.H.sw.blocks.set s0 P,S.H.sw.queue⟩ } (aW S.T p n ⟨2,s0,false⟩)):=Lib.hid fun P=>
        hd'.out.slotE (P:=P) (by rw[←hd'.out.ok.len];exact hpT) hn h0'.out hs0 hz0.out hg'.out rfl
       have hent5:Hid (∀x q j,¬(q=p∧j=n)→bZ (aW S.T p n x) q j=bZ S.T q j):=Lib.hid fun x q j hne=>by
        rw[nA hd'.out.ok (by rw[←hd'.out.ok.len];exact hpT) hn,if_neg hne]
       obtain⟨gw,ow,capw,curw,hvw,hgwB,_,_,_,_⟩:=h4.ma.sw.b.put ic (by decide) s0 (by show s0<S.H.sw.blocks.length;omega)
       have haw:S.H.wb=some ⟨gw,ow,none⟩:=(Value.slice.inj hvw).1
       generalize hS4:({ S.lst a3 c3 l3 with H:={ S.H with sl:=S.H.sl.set s0 1 } }:MW)=S4 at h4 s4 hK4
       have haw:S4.H.wb=some ⟨gw,ow,none⟩:=by rw[←hS4];exact haw
       have hsw4:S4.H.sw=S.H.sw:=by rw[←hS4]
       clear h3 s3 hb4 hg4 hgk hgs c0 hc has hga hvw
       go_upto_region 16 with (fail)
       refine dA 9 [_,_,_,_,_,.v (.slice (some ⟨gw,ow,none⟩) S4.H.sw.blocks.length S4.H.cwb),.v (.int .i64 (s0:Int)),_,.r 8 ((aM fun v => ∃P,v = .agg (dF P)))] (Ba S4 B b w4 []) ay (fun _=>⟨S4.al,S4.cl,S4.l,h4,MS.refl _ _ _,fun t ht=>(by cases ht)⟩) (Qk ay rfl (Qk ay rfl (Qf ay b 1 rfl rfl (Qf ay b 4 rfl rfl (Qf ay b 4 rfl rfl (all_cons ?_ (Qk ay rfl (Qk ay rfl (all_cons ?_ (all_nil)))))))))) (fun _=>rfl) rfl ?_
       ·intro ρ y W L hw hn hLi hLd hb hd
        refine bG ay (fun _ _ h=>h) hb ?_
        have E153:=hw 153 4 rfl
        have h4:y 4=_:=hd 4 rfl
        obtain⟨a,c,l,m1,m2,m3⟩:=hb
        refine aj (.slice (some ⟨gw,ow,none⟩) S4.H.sw.blocks.length S4.H.cwb) (ah rfl) (by simp[execOp,go_sem,E153,h4,m1.blk.cell,dR,MW.lst,haw]) rfl
       ·intro ρ y W L hw hn hLi hLd hb hd;have E156:=hw 156 7 rfl;have h7:y 7=_:=hd 7 rfl
        have EF:∀f,ρ (.func f) = .func (.func f) #[] #[]:=fun f=>hn (.func f) trivial
        refine dK _ _ (ah rfl) (aN rfl (EF _) Try.func31 (by kernel_rfl) (by kernel_rfl) (by simp only[List.map_toArray,List.map_cons,List.map_nil,E156,h7,EF];rfl)) ?_
        exact Gx hb fun P _=>⟨P,rfl⟩
       intro y W6 hbW6 hRW6
       have hy8:((aM fun v => ∃P,v = .agg (dF P))).r (y 8) W6:=hRW6 8 (by decide)
       clear hRW6
       obtain⟨a6,c6,l6,h6,s6,_⟩:=hbW6
       obtain⟨P,hP⟩:=hy8
       rw[hP]
       clear hP
       have s6:=s4.trans s6
       obtain⟨gw',ow',capw',curw',hvw',hgwB',hgwk,hgws,_,hgww⟩:=h6.ma.sw.b.put ic (by decide) s0 (by show s0<S4.H.sw.blocks.length;rw[hsw4];omega)
       have e9:(some (⟨gw',ow',none⟩:Addr))=some ⟨gw,ow,none⟩:=(Value.slice.inj hvw').1.symm.trans haw
       cases e9
       have hsi:(s0:Int)<(S4.H.sw.blocks.length:Int):=by rw[hsw4];omega
       have hgww':=Lib.hid hgww
       clear hvw' hgww h4 s4
       go_wp2_with (refine aA rfl _ _ _ rfl gw (ow+s0*8) _ (sI P) rfl rfl rfl _ _ hgwk (by rw[ic];exact hgws) (by kernel_rfl) (aZ (dD P)) ?_)
       intro w7 hb7 hg7
       have hgaw:oB (S4.lst a6 c6 l6).H.wb=some gw:=by show oB S4.H.wb=some gw;rw[haw];rfl
       have h7:bR w7 B b { S4.lst a6 c6 l6 with H:={ S4.H with sw:=⟨S4.H.sw.blocks.set s0 P,S4.H.sw.queue⟩ } }:=h6.putW hgwk hgwB' hgaw hg7 (l:=S4.H.sw.blocks.set s0 P) (by simp[MW.lst]) (by simpa[MW.lst] using hgww'.out w7 P hb7)
       have s7:=s6.put (H':={ S4.lst a6 c6 l6 with H:={ S4.H with sw:=⟨S4.H.sw.blocks.set s0 P,S4.H.sw.queue⟩ } }) hg7 (.inr (by simp[dH,hgaw])) (fun x hx => .inl hx)
       clear h6 s6 hgwk hb7 hg7 hgws hsi
       subst hS4
       dsimp only[MW.lst] at h7 s7
       obtain⟨gT,oT,curT,hab,hgTB,hgT,hgTs,_,hgTw⟩:=bR.ent h7 (p:=p) (n:=n) hpT hn h64
       have hab:S.ab=some ⟨gT,oT,none⟩:=hab
       have hc:=h7.blk.cell
       unfold dR at hc
       dsimp only at hc
       rw[hab] at hc
       have hpTi:(p:Int)<(S.T.length:Int):=by omega
       have hni:(n:Int)<64:=by omega
       have hgTw':=Lib.hid hgTw
       clear hgTw
       go_wp2_with (refine aA rfl _ _ _ rfl gT (oT+p*192+n*3) _ (iC ⟨2,s0,false⟩) rfl rfl rfl _ _ hgT (by rw[di];exact hgTs) (by kernel_rfl) (aZ (ed _)) ?_)
       intro w8 hb8 hg8
       have h8:=hgTw'.out w8 ⟨2,s0,false⟩ hb8 hg8
       have s8:=s7.put hg8 (.inr (by simp only[dH,hab];simp[oB];right;right;right;right;right;right;right;right;rfl)) (fun x hx => .inl hx) (H':=_)
       clear h7 s7 hc hb8 hg8 hgT
       go_wp2
       refine bodyPost_ret (v:=.tuple #[]) (by simp[results,go_sem,Try.results76]) rfl ?_
       exact⟨_,rfl,h8,s8.same rfl,⟨rfl,rfl,rfl,rfl,rfl,List.length_set⟩,hbdu.out P,hent5.out _⟩
      ·go_wp2
       refine bodyPost_ret (v:=.tuple #[]) (by simp[results,go_sem,Try.results76]) rfl ?_
       exact⟨_,rfl,h3,s3,⟨rfl,rfl,rfl,rfl,rfl,rfl⟩,hd'.out,fun _ _ _=>rfl⟩
     ·rw[decide_eq_false hS]
      clear hS hc
      go_wp2_with fail
      refine (nH _ B b _ h2).mono ?_
      rintro r w3 ⟨P,a3,c3,l3,rfl,h3,s3⟩
      rw[iJ] at h3 s3
      have bx3:=s3.blkN bx2 hn0.out
      have s3:=s2.trans s3
      clear h2 s2 bx2 hcx
      have hcx:=bx3.cell
      unfold dF
      go_wp2_with fail
      refine (cB _ 2 B b _ h3 (by omega)).mono ?_
      rintro r w4 ⟨y3,a4,c4,l4,rfl,h4,s4,_,_⟩
      rw[iJ] at h4 s4
      have bx4:=s4.blkN bx3 hn0.out
      have s4:=s3.trans s4
      clear h3 s3 bx3 hcx
      have hcx:=bx4.cell
      go_wp2_with fail
      refine (vo _ ⟨P,1,y3==1,false,-1,0⟩ B b _ h4 (by have:=hfew.out.1;show S.H.m.fs.length≤1000;have e:S.H.ma.m.fs.length=S.H.m.fs.length:=rfl;omega)).mono ?_
      rintro r w5 ⟨xf,a5,c5,l5,fs,rfl,h5,s5,hxf⟩
      rw[iJ] at h5 s5
      have bx5:=s5.blkN bx4 hn0.out
      have hn5:=Lib.hid (s5.not bx4.lt hn0.out)
      have s5:=s4.trans s5
      clear h4 s4 bx4 hcx
      rcases hxf with ⟨rfl,rfl⟩|⟨f,rfl,hj,hjr,rfl⟩
      ·go_wp2
       refine bodyPost_ret (v:=.tuple #[]) (by simp[results,go_sem,Try.results76]) rfl ?_
       exact⟨_,rfl,h5,s5,⟨rfl,rfl,rfl,rfl,rfl,rfl⟩,hd'.out,fun _ _ _=>rfl⟩
      ·have hjl:f<S.H.m.fs.length:=hj
       have hTl:S.T.length=S.H.sp.length:=by have:=hd'.out.ok.len;rw[this];exact List.length_map _
       have hpT:p<S.T.length:=by omega
       have hbdu:Hid (∀u:Bool,(u=true→gwr=true)→Bd ((S.lst a5 c5 l5).frs (S.H.m.fs.set f ⟨P,1,y3==1,false,-1,0⟩)).H.ma (aW ((S.lst a5 c5 l5).frs (S.H.m.fs.set f ⟨P,1,y3==1,false,-1,0⟩)).T p n ⟨1,f,u⟩)):=Lib.hid fun u hu=>
        hd'.out.anonE (X:=⟨P,1,y3==1,false,-1,0⟩) (w:=u) (by rw[←hd'.out.ok.len];exact hpT) hn h0'.out hjl hjr ⟨rfl,rfl,rfl,rfl⟩ hg'.out rfl hu
       have hK5:Hid (yl S ((S.lst a5 c5 l5).frs (S.H.m.fs.set f ⟨P,1,y3==1,false,-1,0⟩))):=Lib.hid ⟨rfl,rfl,rfl,rfl,List.length_set,rfl⟩
       have hent5:Hid (∀x q j,¬(q=p∧j=n)→bZ (aW ((S.lst a5 c5 l5).frs (S.H.m.fs.set f ⟨P,1,y3==1,false,-1,0⟩)).T p n x) q j=bZ S.T q j):=Lib.hid fun x q j hne=>by
        show bZ (aW S.T p n x) q j=_
        rw[nA hd'.out.ok (by rw[←hd'.out.ok.len];exact hpT) hn,if_neg hne]
       have hpT5:Hid (p<((S.lst a5 c5 l5).frs (S.H.m.fs.set f ⟨P,1,y3==1,false,-1,0⟩)).T.length):=Lib.hid hpT
       have hTn5:Hid (∀S' : MW,S'.T=((S.lst a5 c5 l5).frs (S.H.m.fs.set f ⟨P,1,y3==1,false,-1,0⟩)).T→(bY S'.T p).length=64):=Lib.hid fun S' e=>by rw[e];exact hd'.out.ok.l64 (by rw[←hd'.out.ok.len];exact hpT)
       have h5:bR w5 B b ((S.lst a5 c5 l5).frs (S.H.m.fs.set f ⟨P,1,y3==1,false,-1,0⟩)):=h5
       have s5:MS w b S w5 ((S.lst a5 c5 l5).frs (S.H.m.fs.set f ⟨P,1,y3==1,false,-1,0⟩)):=s5
       have hn5:Hid (¬gM b ((S.lst a5 c5 l5).frs (S.H.m.fs.set f ⟨P,1,y3==1,false,-1,0⟩)) w.heap.size):=hn5
       have hf0:(0:Int)≤(f:Int):=by omega
       clear hj hjr hpT hTl
       generalize (S.lst a5 c5 l5).frs (S.H.m.fs.set f ⟨P,1,y3==1,false,-1,0⟩)=S5 at *
       obtain⟨gT,oT,_,hab,_⟩:=bR.ent (S:=S5) h5 (p:=p) (n:=n) hpT5.out hn (hTn5.out _ rfl)
       go_upto_region 4 with (fail)
       cases gwr with
       | true=>
        skip
        refine dA 16 [_,_,_,.v (.slice (some ⟨gT,oT,none⟩) S5.T.length S5.cb),_,.v (.int .i64 (n:Int)),_,_,.v (.bool true),_,_,.r 11 ((aM fun v => ∃x:Int,v = .int .i64 x∧0≤x)),.r 12 ((aM fun v => ∃u,v = .bool u)),.r 13 ((aM fun v => ∃u,(u=true→true=true)∧v = .bool u)),.r 14 ((aM fun v => ∃u,(u=true→true=true)∧v = .agg #[.int .i64 1,.int .i64 (f:Int),.bool u])),_] (Ba S5 B b w5 [(w.heap.size,#[.bool true,.bool grd,.bool true,.bool false,.int .i64 gfi,.int .i64 (I:Int)],106)]) ay (fun _=>⟨S5.al,S5.cl,S5.l,h5,MS.refl _ _ _,by simpa using ⟨bx5,hn5.out⟩⟩) (Qk ay rfl (Qk ay rfl (Qf ay b 12 rfl rfl (all_cons ?_ (Qk ay rfl (Qk ay rfl (Qk ay rfl (Qf ay w.heap.size 2 rfl rfl (all_cons ?_ (Qk ay rfl (Qk ay rfl (all_cons ?_ (all_cons ?_ (all_cons ?_ (all_cons ?_ (Qr ay (.pointer (some ⟨gT,oT+p*192,none⟩)) (fun ρ y W hKn=>(aT rfl (az rfl hKn) (az rfl hKn) hpT5.out Try.underlying87 ents_size)) rfl rfl (all_nil))))))))))))))))) (fun _=>rfl) rfl ?_
        ·intro ρ y W L hw hn hLi hLd hb hd
         refine bG ay (fun _ _ h=>h) hb ?_
         have E26:=hw 26 2 rfl
         have h2:y 2=_:=hd 2 rfl
         obtain⟨a,c,l,m1,m2,m3⟩:=hb
         refine aj (.slice (some ⟨gT,oT,none⟩) S5.T.length S5.cb) (ah rfl) (by simp[execOp,go_sem,E26,h2,m1.blk.cell,dR,MW.lst,hab]) rfl
        ·intro ρ y W L hw hn hLi hLd hb hd
         refine bG ay (fun _ _ h=>h) hb ?_
         have E31:=hw 31 7 rfl
         have h7:y 7=_:=hd 7 rfl
         obtain⟨a,c,l,m1,m2,m3⟩:=hb
         have m3:=(m3 _ (List.mem_singleton.2 rfl)).1
         refine aj (.bool true) (ah rfl) (by simp[execOp,go_sem,E31,h7,m3.cell]) rfl
        ·intro ρ y W L hw hn hLi hLd hb hd;have E34:=hw 34 10 rfl;have h10:y 10=_:=hd 10 rfl
         have EC:∀v,ρ (.const v)=v:=fun v=>hn (.const v) trivial
         have EF:∀f,ρ (.func f) = .func (.func f) #[] #[]:=fun f=>hn (.func f) trivial
         refine dK _ _ (aL 9 33 true true rfl rfl ((hw 33 9 rfl).trans (hd 9 rfl))) (aN rfl (EF _) Try.func28 (by kernel_rfl) (by kernel_rfl) (by simp only[List.map_toArray,List.map_cons,List.map_nil,E34,h10,EC,EF];rfl)) ?_
         exact qC 2 (by omega) hb fun x h1 _ _ _=>⟨x,rfl,h1⟩
        ·intro ρ y W L hw hn hLi hLd hb hd
         refine bG ay (fun _ _ h=>h) hb ?_
         have E35:=hw 35 11 rfl
         have h11:=hd 11 rfl
         obtain⟨x,hx,_⟩:=h11
         refine aj _ (aL 9 33 true true rfl rfl ((hw 33 9 rfl).trans (hd 9 rfl))) (jo rfl (E35.trans hx) (hn (.const _) trivial) (by simp[go_sem];rfl)) ⟨_,rfl⟩
        ·intro ρ y W L hw hn hLi hLd hb hd
         refine bG ay (fun _ _ h=>h) hb ?_
         have E33:=hw 33 9 rfl
         have h9:y 9=_:=hd 9 rfl
         have E36:=hw 36 12 rfl
         have h12:=hd 12 rfl
         obtain⟨u,hu⟩:=h12
         refine aj (.bool u) (ah rfl) (jw rfl (E33.trans h9) (by simpa using E36.trans hu)) ⟨_,fun _=>rfl,rfl⟩
        ·intro ρ y W L hw hn hLi hLd hb hd
         refine bG ay (fun _ _ h=>h) hb ?_
         have E30:=hw 30 6 rfl
         have h6:y 6=_:=hd 6 rfl
         have E37:=hw 37 13 rfl
         have h13:=hd 13 rfl
         obtain⟨u,hu1,hu⟩:=h13
         have EC:∀v,ρ (.const v)=v:=fun v=>hn (.const v) trivial
         refine aj (.agg #[.int .i64 1,.int .i64 (f:Int),.bool u]) (ah rfl) (by simp[execOp,go_sem,E30,h6,E37,EC,hu]) ⟨u,hu1,rfl⟩
        intro y W6 hbW6 hRW6
        have hy11:((aM fun v => ∃x:Int,v = .int .i64 x∧0≤x)).r (y 11) W6:=hRW6 11 (by decide)
        have hy12:((aM fun v => ∃u,v = .bool u)).r (y 12) W6:=hRW6 12 (by decide)
        have hy13:((aM fun v => ∃u,(u=true→true=true)∧v = .bool u)).r (y 13) W6:=hRW6 13 (by decide)
        have hy14:((aM fun v => ∃u,(u=true→true=true)∧v = .agg #[.int .i64 1,.int .i64 (f:Int),.bool u])).r (y 14) W6:=hRW6 14 (by decide)
        clear hRW6
        obtain⟨a6,c6,l6,h6,s6,_⟩:=hbW6
        obtain⟨u,hu1,hu⟩:=hy14
        rw[hu]
        clear hu
        obtain⟨gT',oT',curT,hab',hgTB,hgT,hgTs,_,hgTw⟩:=bR.ent (S:=S5.lst a6 c6 l6) h6 (p:=p) (n:=n) hpT5.out hn (hTn5.out _ rfl)
        have e9:(some (⟨gT',oT',none⟩:Addr))=some ⟨gT,oT,none⟩:=hab'.symm.trans hab
        cases e9
        have hpTi:(p:Int)<(S5.T.length:Int):=by have:=hpT5.out;omega
        have hni:(n:Int)<64:=by omega
        have hgTw':=Lib.hid hgTw
        have s6:=s5.trans s6
        clear hgTw hab' h5 s5
        go_wp2_with (refine aA rfl _ _ _ rfl gT (oT+p*192+n*3) _ (iC ⟨1,f,u⟩) rfl rfl rfl _ _ hgT (by rw[di];exact hgTs) (by kernel_rfl) (aZ (ed _)) ?_)
        intro w7 hb7 hg7
        have h7:=hgTw'.out w7 ⟨1,f,u⟩ hb7 hg7
        have s7:=s6.put (H':={ S5.lst a6 c6 l6 with T:=aW (S5.lst a6 c6 l6).T p n ⟨1,f,u⟩ }) hg7 (.inr (by simp only[dH,MW.lst,hab];simp[oB];right;right;right;right;right;right;right;right;rfl)) (fun x hx => .inl hx)
        clear hgT hb7 hg7 h6 s6
        go_wp2
        refine bodyPost_ret (v:=.tuple #[]) (by simp[results,go_sem,Try.results76]) rfl ?_
        exact⟨_,rfl,h7,s7,⟨hK5.out.sp,hK5.out.fi,hK5.out.ct,hK5.out.dk,hK5.out.fl,hK5.out.sl⟩,hbdu.out u (fun h=>by first | exact trivial | exact⟨rfl,rfl⟩ | exact absurd (hu1 h) (by decide) | simp),hent5.out _⟩
       | false=>
        skip
        refine dA 16 [_,_,_,.v (.slice (some ⟨gT,oT,none⟩) S5.T.length S5.cb),_,.v (.int .i64 (n:Int)),_,_,.v (.bool false),_,_,_,_,.r 13 ((aM fun v => ∃u,(u=true→false=true)∧v = .bool u)),.r 14 ((aM fun v => ∃u,(u=true→false=true)∧v = .agg #[.int .i64 1,.int .i64 (f:Int),.bool u])),_] (Ba S5 B b w5 [(w.heap.size,#[.bool true,.bool grd,.bool false,.bool false,.int .i64 gfi,.int .i64 (I:Int)],106)]) ay (fun _=>⟨S5.al,S5.cl,S5.l,h5,MS.refl _ _ _,by simpa using ⟨bx5,hn5.out⟩⟩) (Qk ay rfl (Qk ay rfl (Qf ay b 12 rfl rfl (all_cons ?_ (Qk ay rfl (Qk ay rfl (Qk ay rfl (Qf ay w.heap.size 2 rfl rfl (all_cons ?_ (Qk ay rfl (Qk ay rfl (Qk ay rfl (Qk ay rfl (all_cons ?_ (all_cons ?_ (Qr ay (.pointer (some ⟨gT,oT+p*192,none⟩)) (fun ρ y W hKn=>(aT rfl (az rfl hKn) (az rfl hKn) hpT5.out Try.underlying87 ents_size)) rfl rfl (all_nil))))))))))))))))) (fun _=>rfl) rfl ?_
        ·intro ρ y W L hw hn hLi hLd hb hd
         refine bG ay (fun _ _ h=>h) hb ?_
         have E26:=hw 26 2 rfl
         have h2:y 2=_:=hd 2 rfl
         obtain⟨a,c,l,m1,m2,m3⟩:=hb
         refine aj (.slice (some ⟨gT,oT,none⟩) S5.T.length S5.cb) (ah rfl) (by simp[execOp,go_sem,E26,h2,m1.blk.cell,dR,MW.lst,hab]) rfl
        ·intro ρ y W L hw hn hLi hLd hb hd
         refine bG ay (fun _ _ h=>h) hb ?_
         have E31:=hw 31 7 rfl
         have h7:y 7=_:=hd 7 rfl
         obtain⟨a,c,l,m1,m2,m3⟩:=hb
         have m3:=(m3 _ (List.mem_singleton.2 rfl)).1
         refine aj (.bool false) (ah rfl) (by simp[execOp,go_sem,E31,h7,m3.cell]) rfl
        ·intro ρ y W L hw hn hLi hLd hb hd
         refine bG ay (fun _ _ h=>h) hb ?_
         have E33:=hw 33 9 rfl
         have h9:y 9=_:=hd 9 rfl
         have E36:=hw 36 12 rfl
         have h12:y 12=_:=hd 12 rfl
         refine aj (.bool false) (ah rfl) (jw rfl (E33.trans h9) (by exact (hn (.const _) trivial).trans rfl)) ⟨false,fun h=>(by cases h),rfl⟩
        ·intro ρ y W L hw hn hLi hLd hb hd
         refine bG ay (fun _ _ h=>h) hb ?_
         have E30:=hw 30 6 rfl
         have h6:y 6=_:=hd 6 rfl
         have E37:=hw 37 13 rfl
         have h13:=hd 13 rfl
         obtain⟨u,hu1,hu⟩:=h13
         have EC:∀v,ρ (.const v)=v:=fun v=>hn (.const v) trivial
         refine aj (.agg #[.int .i64 1,.int .i64 (f:Int),.bool u]) (ah rfl) (by simp[execOp,go_sem,E30,h6,E37,EC,hu]) ⟨u,hu1,rfl⟩
        intro y W6 hbW6 hRW6
        have hy13:((aM fun v => ∃u,(u=true→false=true)∧v = .bool u)).r (y 13) W6:=hRW6 13 (by decide)
        have hy14:((aM fun v => ∃u,(u=true→false=true)∧v = .agg #[.int .i64 1,.int .i64 (f:Int),.bool u])).r (y 14) W6:=hRW6 14 (by decide)
        clear hRW6
        obtain⟨a6,c6,l6,h6,s6,_⟩:=hbW6
        obtain⟨u,hu1,hu⟩:=hy14
        rw[hu]
        clear hu
        obtain⟨gT',oT',curT,hab',hgTB,hgT,hgTs,_,hgTw⟩:=bR.ent (S:=S5.lst a6 c6 l6) h6 (p:=p) (n:=n) hpT5.out hn (hTn5.out _ rfl)
        have e9:(some (⟨gT',oT',none⟩:Addr))=some ⟨gT,oT,none⟩:=hab'.symm.trans hab
        cases e9
        have hpTi:(p:Int)<(S5.T.length:Int):=by have:=hpT5.out;omega
        have hni:(n:Int)<64:=by omega
        have hgTw':=Lib.hid hgTw
        have s6:=s5.trans s6
        clear hgTw hab' h5 s5
        go_wp2_with (refine aA rfl _ _ _ rfl gT (oT+p*192+n*3) _ (iC ⟨1,f,u⟩) rfl rfl rfl _ _ hgT (by rw[di];exact hgTs) (by kernel_rfl) (aZ (ed _)) ?_)
        intro w7 hb7 hg7
        have h7:=hgTw'.out w7 ⟨1,f,u⟩ hb7 hg7
        have s7:=s6.put (H':={ S5.lst a6 c6 l6 with T:=aW (S5.lst a6 c6 l6).T p n ⟨1,f,u⟩ }) hg7 (.inr (by simp only[dH,MW.lst,hab];simp[oB];right;right;right;right;right;right;right;right;rfl)) (fun x hx => .inl hx)
        clear hgT hb7 hg7 h6 s6
        go_wp2
        refine bodyPost_ret (v:=.tuple #[]) (by simp[results,go_sem,Try.results76]) rfl ?_
        exact⟨_,rfl,h7,s7,⟨hK5.out.sp,hK5.out.fi,hK5.out.ct,hK5.out.dk,hK5.out.fl,hK5.out.sl⟩,hbdu.out u (fun h=>by first | exact trivial | exact⟨rfl,rfl⟩ | exact absurd (hu1 h) (by decide) | simp),hent5.out _⟩
end Go.Proofs.Ytkjobhcnlppcnaa