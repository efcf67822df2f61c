/- Package table's Own and Get. -/
import Derived.Test.YtmdnmknmniabeaaTab
namespace Go.Proofs.Ytmdnmknmniabeaa
open Go.RowKit Pw
set_option linter.unusedSimpArgs false
set_option linter.unusedVariables false

theorem entry_info : (Try.prog.info? 26).map (fun i => (i.zero, i.size, i.bytes)) = some (some (.agg #[.int .i64 0, .int .i64 0, .bool false]), 3, 24) := by kernel_rfl
theorem entries_len (l : List En) : (l.flatMap enL).length = l.length * 3 := flat_len enL 3 enL_len l
theorem enC_one (f : En) : (enC f).all (·.oneCell') = true := by simp [enC, Value.oneCell']
theorem entries_one (l : List En) : ∀ u ∈ l.flatMap enL, u.oneCell' = true := by
  intro u hu
  obtain ⟨f, _, hf⟩ := List.mem_flatMap.1 hu
  have := enC_one f
  rw [← Array.all_toList, List.all_eq_true] at this
  exact this u hf
set_option maxHeartbeats 400000 in
set_option maxRecDepth 100000 in
theorem clone_entries (l : List En) (a : Option Addr) (c : Nat) (w : World) (hle : l.length ≤ c) (hnil : a = none → c = 0) (hrd : RdV w a (l.flatMap enL)) (hb : l.length * 24 ≤ 140737488355328) :
    Calls Try.prog 58 #[.slice a l.length c] w fun e w' => ∃ v, e = .returned v ∧ Own w' w.heap.size 26 3 v l.length (l.flatMap enL) ∧ Below w.heap.size w w' := by
  cases a with
  | none =>
    have h0 := hnil rfl
    have hl : l = [] := List.eq_nil_of_length_eq_zero (by omega)
    subst hl
    subst h0
    have hq := fun W => Lib.run_eql_slice_nil (P := Try.prog) W 22 _ none 0 0 0 0 Try.underlying22
    go_enter Try.func58, Try.ntmps58
    go_wp2
    go_ret
    exact ⟨_, rfl, by simpa using Own.nil _ _ _ _, Below.refl _ _⟩
  | some ad =>
    have hq := fun W => Lib.run_eql_slice_nil (P := Try.prog) W 22 _ (some ad) l.length c 0 0 Try.underlying22
    go_enter Try.func58, Try.ntmps58
    go_wp2_with (at_builtin; go_must (refine wpList_app rfl _ _ 22 rfl w.heap.size 26 (.agg #[.int .i64 0, .int .i64 0, .bool false]) 3 24 Try.underlying22 entry_info rfl (by decide) _ 0 [] rfl ?own (some ad) l.length c (l.flatMap enL) rfl (fun h => (by cases h)) hle (entries_len l) ?rd (entries_one l) (by unfold maxLen; omega) (by simpa using hb) ?bb ?k))
    case own => exact ⟨rfl, .inr ⟨w.heap.size, 0, 0, #[], rfl, Nat.le_refl _, Blk.new _ _ _, Nat.le_refl _, Nat.zero_le _, by simp, fun j u h => by simp at h⟩⟩
    case rd => exact hrd.below ((Below.refl _ _).alloc (Nat.le_refl _) _)
    case bb => exact le_alloc _ _
    intro v w1 hown hgr
    go_wp2
    go_ret
    exact ⟨v, rfl, by simpa using hown, ((Below.refl _ _).alloc (Nat.le_refl _) _).grown hgr (le_alloc _ _) (fun k hk => by cases hk; exact Nat.le_refl _)⟩

/-- A table of the call's own: no two halves lie in one block. -/
structure TbO (w : World) (B : Nat) (cs : Array Value) (t : Tb) : Prop where
  sz : cs.size = 8
  own : ∀ k (h : k < 8), ∃ v, cs[k]? = some v ∧ Own w B 26 3 v t[k].length (t[k].flatMap enL)
  apart : ∀ (j k : Nat) (v u : Value), j < k → cs[j]? = some v → cs[k]? = some u → ∀ g, v.ownBlock = some g → u.ownBlock ≠ some g
theorem TbO.rd {w : World} {B : Nat} {cs : Array Value} {t : Tb} (h : TbO w B cs t) : TbR w cs t :=
  ⟨h.sz, fun k hk => by
    obtain ⟨v, h1, h2⟩ := h.own k hk
    obtain ⟨a, c, rfl, h3, h4, h5, h6⟩ := h2.rd
    exact ⟨a, c, h1, h3, h4, h5, h6⟩⟩
theorem TbO.below {w w' : World} {B : Nat} {cs : Array Value} {t : Tb} (h : TbO w B cs t) (hb : Below w.heap.size w w') : TbO w' B cs t :=
  ⟨h.sz, fun k hk => by obtain ⟨v, h1, h2⟩ := h.own k hk; exact ⟨v, h1, h2.below hb⟩, h.apart⟩
theorem TbO.mono {w : World} {B B' : Nat} {cs : Array Value} {t : Tb} (h : TbO w B cs t) (hB : B' ≤ B) : TbO w B' cs t :=
  ⟨h.sz, fun k hk => by obtain ⟨v, h1, h2⟩ := h.own k hk; exact ⟨v, h1, h2.mono hB⟩, h.apart⟩
theorem TbO.keep {w w' : World} {B : Nat} {cs : Array Value} {t : Tb} (h : TbO w B cs t) {g : Nat} {cs' : Array Value} {T : TypeId} (hk : Blk w g cs' T) (hT : T ≠ 26) (hgr : w.grownBy w' (some g)) : TbO w' B cs t :=
  ⟨h.sz, fun k hk' => by obtain ⟨v, h1, h2⟩ := h.own k hk'; exact ⟨v, h1, own_keep h2 hk hT hgr⟩, h.apart⟩
/-- In the midst of a copy: the first k halves are the call's own. -/
structure TbM (w : World) (B : Nat) (cs ca : Array Value) (t : Tb) (k : Nat) : Prop where
  sz : ca.size = 8
  old : ∀ i, k ≤ i → ca[i]? = cs[i]?
  own : ∀ i (h : i < 8), i < k → ∃ v, ca[i]? = some v ∧ Own w B 26 3 v t[i].length (t[i].flatMap enL)
  apart : ∀ (j i : Nat) (v u : Value), j < i → i < k → ca[j]? = some v → ca[i]? = some u → ∀ g, v.ownBlock = some g → u.ownBlock ≠ some g
theorem TbM.start {w : World} {B : Nat} {cs : Array Value} {t : Tb} (h : cs.size = 8) : TbM w B cs cs t 0 := ⟨h, fun _ _ => rfl, fun _ _ h => absurd h (Nat.not_lt_zero _), fun _ _ _ _ _ h => absurd h (Nat.not_lt_zero _)⟩
theorem own_lt {w : World} {B : Nat} {e : TypeId} {sz : Nat} {v : Value} {n : Nat} {xs : List Value} (h : Own w B e sz v n xs) (g : Nat) (hg : v.ownBlock = some g) : g < w.heap.size := by
  obtain ⟨cs, hb⟩ := own_blk h g hg
  exact hb.lt
theorem TbM.step {w w4 w5 : World} {B b : Nat} {cs ca : Array Value} {t : Tb} {k : Nat} {T : TypeId} (h : TbM w B cs ca t k) (hB : B ≤ w.heap.size) (hk : k < 8) {v : Value} (hb : Below w.heap.size w w4) (ho : Own w4 w.heap.size 26 3 v t[k].length (t[k].flatMap enL))
    (hblk : Blk w4 b ca T) (hT : T ≠ 26) (hg : w4.grownBy w5 (some b)) : TbM w5 B cs (ca.setIfInBounds k v) t (k + 1) where
  sz := by simp [h.sz]
  old := fun i hi => by rw [Array.getElem?_setIfInBounds_ne (by omega)]; exact h.old i (by omega)
  own := fun i hi hik => by
    by_cases e : i = k
    · subst e
      exact ⟨v, by rw [Array.getElem?_setIfInBounds_self_of_lt (by rw [h.sz]; exact hi)], own_keep (ho.mono hB) hblk hT hg⟩
    · obtain ⟨u, h1, h2⟩ := h.own i hi (by omega)
      exact ⟨u, by rw [Array.getElem?_setIfInBounds_ne (by omega)]; exact h1, own_keep (h2.below hb) hblk hT hg⟩
  apart := fun j i x y hji hi hx hy g hgx hgy => by
    have hjk : j ≠ k := by omega
    rw [Array.getElem?_setIfInBounds_ne (by omega)] at hx
    by_cases e : i = k
    · subst e
      rw [Array.getElem?_setIfInBounds_self_of_lt (by rw [h.sz]; exact hk)] at hy
      cases hy
      have h1 := ho.ge g hgy
      obtain ⟨u, h2, h3⟩ := h.own j (by omega) (by omega)
      rw [h2] at hx
      cases hx
      have := own_lt h3 g hgx
      omega
    · rw [Array.getElem?_setIfInBounds_ne (by omega)] at hy
      exact h.apart j i x y hji (by omega) hx hy g hgx hgy
theorem TbM.fin {w : World} {B : Nat} {cs ca : Array Value} {t : Tb} (h : TbM w B cs ca t 8) : TbO w B ca t :=
  ⟨h.sz, fun k hk => h.own k hk hk, fun j k v u hjk h1 h2 => h.apart j k v u hjk (by
    rcases Nat.lt_or_ge k 8 with hk | hk
    · exact hk
    · rw [Array.getElem?_eq_none (by rw [h.sz]; exact hk)] at h2; cases h2) h1 h2⟩
theorem TbM.mono {w w' : World} {B : Nat} {cs ca : Array Value} {t : Tb} {k : Nat} (h : TbM w B cs ca t k) (hb : Below w.heap.size w w') : TbM w' B cs ca t k :=
  ⟨h.sz, h.old, fun i hi hik => by obtain ⟨v, h1, h2⟩ := h.own i hi hik; exact ⟨v, h1, h2.below hb⟩, h.apart⟩

/-- Each half takes so little memory as any that is read. -/
def TbSz (t : Tb) : Prop := ∀ k (h : k < 8), t[k].length * 24 ≤ 140737488355328
set_option maxHeartbeats 2000000 in
set_option maxRecDepth 100000 in
theorem town_any (t : Tb) (cs : Array Value) (w : World) (h : TbR w cs t) (hz : TbSz t) : Calls Try.prog 17 #[.agg cs] w fun r w' => ∃ cs', r = .returned (.agg cs') ∧ TbO w' w.heap.size cs' t ∧ Below w.heap.size w w' := by
  go_enter Try.func17, Try.ntmps17
  go_upto_region 1 with (fail)
  refine abs2 (fun W => Code.wp _ _ _ _ W) fun W0 hb0 hx0 hres0 hs0 => ?_
  clear hs0
  go_wp2_with (refine wpList_ld rfl 24 (.tmp 1) rfl w.heap.size 0 rfl cs.toList hx0.rd _ Try.underlying24 tab_agg (by rw [Array.length_toList, h.sz]; exact tab_size) ?_)
  have hM0 : TbM W0 w.heap.size cs cs t 0 := TbM.start h.sz
  go_loopw [6] (fun i wr => ∃ (k : Nat) (ca : Array Value), k ≤ 8 ∧ i = .int .i64 k ∧ Below w.heap.size w wr ∧ Blk wr w.heap.size ca 24 ∧ Blk wr (w.heap.size + 1) #[.slice none 0 0, .slice none 0 0, .slice none 0 0, .slice none 0 0, .slice none 0 0, .slice none 0 0, .slice none 0 0, .slice none 0 0] 24 ∧ TbM wr w.heap.size cs ca t k) (fun i _ => 8 - (intOf i).toNat)
  case atStart => exact ⟨0, cs, Nat.zero_le _, rfl, hb0, hx0, hres0, hM0⟩
  case round =>
    obtain ⟨k, ca, hk, rfl, hbr, hx, hres, hM⟩ := hrel
    clear hb0 hx0 hres0 hM0
    by_cases hlt : k < 8
    · obtain ⟨a, c, hcs, hle, hmx, hnil, hrd⟩ := h.at' k hlt
      have hix := fun W => idx_tab hlt hcs W
      have hd8 : decide ((k : Int) < 8) = true := by simp; omega
      have hca := (hM.old k (Nat.le_refl _)).trans hcs
      have HCA := Lib.hid hca
      clear hca hcs
      go_wp2_with fail
      refine (clone_entries t[k] a c _ hle hnil (hrd.below hbr) (hz k hlt)).mono ?_
      rintro e w4 ⟨v, rfl, ho, hb4⟩
      have hbel4 := below_next hbr hb4
      have hx4 := hx.ext hb4
      have hres4 := hres.ext hb4
      have hc4 := (hx4.cell k).trans HCA.out
      have hf4 := hx4.free k
      have hgr4 := grownBy_setCells w4 w.heap.size k [v]
      have hM5 := hM.step hbr.size hlt hb4 ho hx4 (by decide) hgr4
      have hx5 : Blk (w4.setCell ⟨w.heap.size, k, none⟩ v) w.heap.size (ca.setIfInBounds k v) 24 := hx4.setCell k v
      have hres5 := hres4.setCell_other ⟨w.heap.size, k, none⟩ v (by simp)
      have hbel5 : Below w.heap.size w (w4.setCell ⟨w.heap.size, k, none⟩ v) := hbel4.grown hgr4 hbel4.size (fun k hk => by cases hk; exact Nat.le_refl _)
      obtain ⟨xa, xc, rfl, _⟩ := ho.rd
      clear hx4 hres4 hbr hx hres hM hbel4 hb4 ho hgr4 hix
      go_wp2
      go_roundw
      case rel => exact ⟨k + 1, _, by omega, by go_num, hbel5, hx5, hres5, hM5⟩
      case measure => simp [intOf]; omega
    · obtain rfl : k = 8 := by omega
      have hO := hM.fin
      have hone := hO.rd.one
      have hsz := hM.sz
      go_wp2_with (first | (refine wpList_ld rfl 24 (.tmp 1) rfl w.heap.size 0 rfl ca.toList hx.rd _ Try.underlying24 tab_agg (by rw [Array.length_toList, hsz]; exact tab_size) ?_) | (refine wpList_stw rfl _ (.tmp 2) (.tmp 15) rfl (w.heap.size + 1) ca rfl rfl _ _ hres (by rw [hsz]; rfl) (by rw [hsz]; exact tab_size) hone ?_))
      intro w5 hr5 hgr5
      have hO5 := hO.keep hres (by decide) hgr5
      have hbel5 : Below w.heap.size w w5 := hbr.grown hgr5 hbr.size (fun k hk => by cases hk; omega)
      go_wp2
      refine bodyPost_ret (v := .agg ca) (results_cell_row Try.results17 _ _ (w.heap.size + 1) _ ca _ _ rfl hr5 Try.underlying24 rfl (by rw [hsz]; exact tab_size)) rfl ?_
      exact ⟨_, rfl, hO5, hbel5⟩
end Go.Proofs.Ytmdnmknmniabeaa
