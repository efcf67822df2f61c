/- Package table's Guard. -/
import Derived.Test.YtmdnmknmniabeaaTab7
namespace Go.Proofs.Ytmdnmknmniabeaa
open Go.RowKit Pw
set_option linter.unusedSimpArgs false
set_option linter.unusedVariables false

def unW (e : En) : En := ⟨e.k, e.n, false⟩
def guardT (t : Tb) : Tb := t.map fun h => h.map unW
theorem TbO.wrc {w : World} {B : Nat} {cs : Array Value} {t : Tb} (h : TbO w B cs t) {q r : Nat} (hq : q < 8) (hr : r < t[q].length) :
    ∃ g off cap, cs[q]? = some (.slice (some ⟨g, off, none⟩) t[q].length cap) ∧ B ≤ g ∧ (∃ cur, Blk w g cur 26) ∧ w.cell? ⟨g, off + r * 3 + 2, none⟩ = some (.bool t[q][r].w) ∧ w.frozen? ⟨g, off + r * 3 + 2, none⟩ = false ∧
      TbO (w.setCell ⟨g, off + r * 3 + 2, none⟩ (.bool false)) B cs (t.set q (t[q].set r (unW t[q][r]))) := by
  obtain ⟨v, h1, h2⟩ := h.own q hq
  obtain ⟨g, off, cap, rfl, hB, hlt, hb, hcell, hfr, hset⟩ := own_cell enL_len (by decide) rfl h2 r hr 2 (by decide) (.bool false) (unW t[q][r]) rfl
  refine ⟨g, off, cap, h1, hB, hb, hcell 2 _ rfl, hfr, ⟨h.sz, fun k hk => ?_, h.apart⟩⟩
  by_cases e : k = q
  · subst e
    exact ⟨_, h1, by simpa using hset⟩
  · obtain ⟨u, h3, h4⟩ := h.own k hk
    refine ⟨u, h3, ?_⟩
    rw [Vector.getElem_set_ne hq hk (fun e2 => e e2.symm)]
    refine h4.grown (grownBy_setCells w g (off + r * 3 + 2) [.bool false]) fun g' hg' he => ?_
    cases he
    rcases Nat.lt_or_gt_of_ne e with hlt | hlt
    · exact h.apart k q _ _ hlt h3 h1 g hg' rfl
    · exact h.apart q k _ _ hlt h1 h3 g rfl hg'
/-- The first k halves, and j entries of the next one, are guarded. -/
structure GuM (t t' : Tb) (k j : Nat) : Prop where
  lo : ∀ i (h : i < 8), i < k → t'[i] = t[i].map unW
  at' : ∀ (h : k < 8), t'[k] = (t[k].take j).map unW ++ t[k].drop j
  hi : ∀ i (h : i < 8), k < i → t'[i] = t[i]
theorem GuM.start {t : Tb} : GuM t t 0 0 := ⟨fun _ _ h => absurd h (Nat.not_lt_zero _), fun _ => by simp, fun _ _ _ => rfl⟩
theorem GuM.len {t t' : Tb} {k j : Nat} (h : GuM t t' k j) (hk : k < 8) : t'[k].length = t[k].length := by
  rw [h.at' hk]; simp; omega
theorem GuM.next {t t' : Tb} {k : Nat} (h : GuM t t' k (t[k]?.getD []).length) (hk : k < 8) : GuM t t' (k + 1) 0 := by
  have e : (t[k]?.getD []) = t[k] := by simp [hk]
  rw [e] at h
  refine ⟨fun i hi hik => ?_, fun hk2 => by rw [h.hi _ hk2 (by omega)]; simp, fun i hi hik => h.hi i hi (by omega)⟩
  by_cases e : i = k
  · subst e
    rw [h.at' hi]; simp
  · exact h.lo i hi (by omega)
theorem list_mid {α : Type} (f : α → α) (l : List α) (j : Nat) (hj : j < l.length) (h' : j < ((l.take j).map f ++ l.drop j).length) : ((l.take j).map f ++ l.drop j).set j (f (((l.take j).map f ++ l.drop j)[j])) = (l.take (j + 1)).map f ++ l.drop (j + 1) := by
  have hlen : ((l.take j).map f).length = j := by simp; omega
  have hd : l.drop j = l[j] :: l.drop (j + 1) := by rw [List.drop_eq_getElem_cons hj]
  have hg : ((l.take j).map f ++ l.drop j)[j] = l[j] := by
    rw [List.getElem_append_right (by omega)]
    simp only [hlen, Nat.sub_self]
    simp
  rw [hg, hd, List.set_append_right _ _ (by omega), hlen, Nat.sub_self, List.set_cons_zero, List.take_add_one, List.getElem?_eq_getElem hj, List.map_append, List.append_assoc]
  rfl
theorem GuM.step {t t' : Tb} {k j : Nat} (h : GuM t t' k j) (hk : k < 8) (hj : j < t[k].length) (hj' : j < t'[k].length) : GuM t (t'.set k (t'[k].set j (unW t'[k][j]))) k (j + 1) := by
  refine ⟨fun i hi hik => by rw [Vector.getElem_set_ne hk hi (by omega)]; exact h.lo i hi hik, fun _ => ?_, fun i hi hik => by rw [Vector.getElem_set_ne hk hi (by omega)]; exact h.hi i hi hik⟩
  have := list_mid unW t[k] j hj (by simp; omega)
  rw [Vector.getElem_set_self, ← this]
  congr 1
  · exact h.at' hk
  · congr 1
    simp only [h.at' hk]
theorem GuM.fin {t t' : Tb} {j : Nat} (h : GuM t t' 8 j) : t' = guardT t := by
  apply Vector.ext
  intro i hi
  rw [h.lo i hi hi]
  simp [guardT]
set_option maxHeartbeats 2000000 in
set_option maxRecDepth 100000 in
theorem tguard_any (t : Tb) (cs : Array Value) (w : World) (h : TbR w cs t) (hz : TbSz t) : Calls Try.prog 25 #[.agg cs] w fun r w' => ∃ cs', r = .returned (.agg cs') ∧ TbO w' w.heap.size cs' (guardT t) ∧ Below w.heap.size w w' := by
  have hmx : ∀ k (hk : k < 8), t[k].length ≤ 9223372036854775807 := fun k hk => by obtain ⟨_, c, _, h1, h2, _⟩ := h.at' k hk; exact Nat.le_trans h1 h2
  have HMX := Lib.hid hmx
  clear hmx
  go_enter Try.func25, Try.ntmps25
  go_upto_region 1 with (fail)
  refine abs2 (fun W => Code.wp _ _ _ _ W) fun W0 hb0 hx0 hres0 hs0 => ?_
  clear hs0
  go_wp2_with (refine wpList_ld rfl 24 (.tmp 1) rfl w.heap.size 0 rfl cs.toList hx0.rd _ Try.underlying24 tab_agg (by rw [Array.length_toList, h.sz]; exact tab_size) ?_)
  refine (town_any t cs _ (h.below hb0) hz).mono ?_
  rintro r w1 ⟨ca, rfl, hO1, hb1⟩
  have hbel1 := below_next hb0 hb1
  have hres1 := hres0.ext hb1
  have hone := hO1.rd.one
  have hsz := hO1.sz
  have hO1' := hO1.mono hb0.size
  have hge : w.heap.size + 1 < w1.heap.size := hres1.lt
  clear hb0 hx0 hres0 hb1 hO1
  go_wp2_with (refine wpList_stw rfl _ (.tmp 3) (.tmp 8) rfl w1.heap.size ca rfl rfl _ _ (Blk.new _ _ _) (by rw [hsz]; rfl) (by rw [hsz]; exact tab_size) hone ?_)
  intro w2 hx2 hgr2
  have hO2 := (hO1'.below ((Below.refl _ _).alloc (Nat.le_refl _) _)).keep (Blk.new _ _ _) (by decide) hgr2
  have hres2 : Blk w2 (w.heap.size + 1) _ _ := (hres1.alloc _).grown hgr2 (fun e => by have := Option.some.inj e; omega)
  have hbel2 : Below w.heap.size w w2 := (hbel1.alloc hbel1.size _).grown hgr2 (le_alloc' hbel1.size _) (fun k hk => by cases hk; exact hbel1.size)
  have hG2 := Lib.hid (GuM.start (t := t))
  clear hO1' hres1 hbel1 hgr2 hone
  go_wp2_with (refine wpList_ld rfl 24 (.tmp 3) rfl w1.heap.size 0 rfl ca.toList hx2.rd _ Try.underlying24 tab_agg (by rw [Array.length_toList, hsz]; exact tab_size) ?_)
  go_loopw [10] (fun i wr => ∃ (k : Nat) (t' : Tb), k ≤ 8 ∧ i = .int .i64 k ∧ Below w.heap.size w wr ∧ Blk wr w1.heap.size ca 24 ∧ Blk wr (w.heap.size + 1) #[.slice none 0 0, .slice none 0 0, .slice none 0 0, .slice none 0 0, .slice none 0 0, .slice none 0 0, .slice none 0 0, .slice none 0 0] 24 ∧ TbO wr w.heap.size ca t' ∧ Hid (GuM t t' k 0)) (fun i _ => 8 - (intOf i).toNat)
  case atStart => exact ⟨0, t, Nat.zero_le _, rfl, hbel2, hx2, hres2, hO2, hG2⟩
  case round =>
    obtain ⟨k, t', hk, rfl, hbr, hx, hres, hO, hG⟩ := hrel
    clear hbel2 hx2 hres2 hO2 hG2
    by_cases hlt : k < 8
    · have hd8 : decide ((k : Int) < 8) = true := by simp; omega
      obtain ⟨v, hv, hown⟩ := hO.own k hlt
      obtain ⟨a, c, rfl, hle, hmx, hnil, hrd⟩ := hown.rd
      unfold maxLen at hmx
      have hix := fun W => idx_tab hlt hv W
      have hlen := hG.out.len hlt
      rw [hlen] at hix hle
      have HV := Lib.hid hv
      have hmk := HMX.out k hlt
      clear hv hown hrd hnil hlen
      go_wp2
      clear hix
      go_loopw [15] (fun i wr' => ∃ (j : Nat) (t2 : Tb), j ≤ t[k].length ∧ i = .int .i64 j ∧ Below w.heap.size w wr' ∧ Blk wr' w1.heap.size ca 24 ∧ Blk wr' (w.heap.size + 1) #[.slice none 0 0, .slice none 0 0, .slice none 0 0, .slice none 0 0, .slice none 0 0, .slice none 0 0, .slice none 0 0, .slice none 0 0] 24 ∧ TbO wr' w.heap.size ca t2 ∧ Hid (GuM t t2 k j)) (fun i _ => t[k].length - (intOf i).toNat)
      case atStart => exact ⟨0, t', Nat.zero_le _, rfl, hbr, hx, hres, hO, hG⟩
      case round =>
        obtain ⟨j, t2, hj, rfl, hbr2, hx2, hres2, hO2, hG2⟩ := hrel
        clear hbr hx hres hO hG
        have HL := Lib.hid (hG2.out.len hlt)
        by_cases hjl : j < t[k].length
        · have hj2 : j < t2[k].length := by rw [HL.out]; exact hjl
          obtain ⟨g, off, cap, h1, hB, ⟨cur, hbg⟩, hcell, hfr, hO3⟩ := hO2.wrc hlt hj2
          have hinj := Option.some.inj (HV.out.symm.trans h1)
          simp only [Value.slice.injEq] at hinj
          obtain ⟨rfl, _, rfl⟩ := hinj
          have hgr := grownBy_setCells wr g (off + j * 3 + 2) [.bool false]
          have hx3 : Blk (wr.setCell ⟨g, off + j * 3 + 2, none⟩ (.bool false)) w1.heap.size ca 24 := blk_keep hx2 hbg (by decide) hgr
          have hres3 : Blk (wr.setCell ⟨g, off + j * 3 + 2, none⟩ (.bool false)) (w.heap.size + 1) _ _ := blk_keep hres2 hbg (by decide) hgr
          have hbel3 : Below w.heap.size w (wr.setCell ⟨g, off + j * 3 + 2, none⟩ (.bool false)) := hbr2.grown hgr hbr2.size (fun k hk => by cases hk; exact hB)
          have hG3 := Lib.hid (hG2.out.step hlt hjl hj2)
          clear hx2 hres2 hbr2 hO2 hG2 hgr HL h1 hbg
          go_wp2
          go_roundw
          case rel => exact ⟨j + 1, _, by omega, by go_num, hbel3, hx3, hres3, hO3, hG3⟩
          case measure => simp [intOf]; omega
        · have hjj : j = t[k].length := by omega
          have hG3 : Hid (GuM t t2 (k + 1) 0) := Lib.hid (GuM.next (by simp only [hlt, Vector.getElem?_eq_getElem, Option.getD_some]; rw [← hjj]; exact hG2.out) hlt)
          clear hjj
          go_wp2
          go_roundw
          case rel => exact ⟨k + 1, t2, by omega, by go_num, hbr2, hx2, hres2, hO2, hG3⟩
          case measure => simp [intOf]; omega
    · obtain rfl : k = 8 := by omega
      have hfin := hG.out.fin
      have hone := hO.rd.one
      go_wp2_with (first | (refine wpList_ld rfl 24 (.tmp 3) rfl w1.heap.size 0 rfl ca.toList hx.rd _ Try.underlying24 tab_agg (by rw [Array.length_toList, hsz]; exact tab_size) ?_) | (refine wpList_stw rfl _ (.tmp 2) (.tmp 24) rfl (w.heap.size + 1) ca rfl rfl _ _ hres (by rw [hsz]; rfl) (by rw [hsz]; exact tab_size) hone ?_))
      intro w5 hr5 hgr5
      have hO5 := hO.keep hres (by decide) hgr5
      have hbel5 : Below w.heap.size w w5 := hbr.grown hgr5 hbr.size (fun k hk => by cases hk; omega)
      rw [hfin] at hO5
      clear hfin
      go_wp2
      refine bodyPost_ret (v := .agg ca) (results_c Try.results25 _ _ (w.heap.size + 1) _ ca _ rfl hr5 Try.underlying24 rfl (by rw [hsz]; exact tab_size)) rfl ?_
      exact ⟨_, rfl, hO5, hbel5⟩
end Go.Proofs.Ytmdnmknmniabeaa
