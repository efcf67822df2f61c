/- Tables as data; what is wrong with an entry, and a table. -/
import Derived.Test.YtmdnmknmniabeaaRows
import Derived.Test.YtmdnmknmniabeaaIdx
import Derived.Lib.LazyBuf
import Derived.BigQuiet
import Derived.IntWalk
import Derived.Deep.QuietTactic
import Derived.Deep.DeepCutAuto
import Derived.Deep.Light
namespace Go.Proofs.Ytmdnmknmniabeaa
open Go.RowKit Pw
set_option linter.unusedSimpArgs false
set_option linter.unusedVariables false

structure En where
  k : Int
  n : Int
  w : Bool
  deriving DecidableEq
def enC (e : En) : Array Value := #[.int .i64 e.k, .int .i64 e.n, .bool e.w]
def enL (e : En) : List Value := (enC e).toList
theorem enL_len (e : En) : (enL e).length = 3 := rfl
def zEn : En := ⟨0, 0, false⟩
abbrev Tb := Vector (List En) 8
/-- A table by value: eight slices. -/
structure TbR (w : World) (cs : Array Value) (t : Tb) : Prop where
  sz : cs.size = 8
  at' : ∀ k (h : k < 8), ∃ a c, cs[k]? = some (.slice a t[k].length c) ∧ t[k].length ≤ c ∧ c ≤ maxLen ∧ (a = none → c = 0) ∧ RdV w a (t[k].flatMap enL)
theorem TbR.below {w w' : World} {cs : Array Value} {t : Tb} (h : TbR w cs t) (hb : Below w.heap.size w w') : TbR w' cs t :=
  ⟨h.sz, fun k hk => by obtain ⟨a, c, h1, h2, h3, h4, h5⟩ := h.at' k hk; exact ⟨a, c, h1, h2, h3, h4, h5.below hb⟩⟩
theorem TbR.one {w : World} {cs : Array Value} {t : Tb} (h : TbR w cs t) : cs.all (·.oneCell') = true := by
  rw [Array.all_eq_true]
  intro i hi
  obtain ⟨a, c, h1, _⟩ := h.at' i (by have := h.sz; omega)
  rw [Array.getElem?_eq_getElem hi] at h1
  rw [Option.some.inj h1]
  rfl
theorem idx_tab {cs : Array Value} {k : Nat} {v : Value} (h : k < 8) (hv : cs[k]? = some v) (w : World) : (Instr.index 24 (.agg cs) (.int .i64 k)).run Try.prog w = .ok v w :=
  run_index_cell Try.underlying24 Try.underlying22 sl_desc (by kernel_rfl) _ k _ h hv _ w
theorem tab_agg : aggB (.array 8 22) = true := rfl
theorem tab_size : (Try.prog.info? 24).map (·.size) = some 8 := by kernel_rfl
/-- An entry among others. -/
theorem en_at {w : World} {a : Option Addr} {l : List En} (h : RdV w a (l.flatMap enL)) (k : Nat) (hk : k < l.length) : ∃ b off, a = some ⟨b, off, none⟩ ∧ w.cell? ⟨b, off + k * 3, none⟩ = some (.int .i64 l[k].k) ∧ w.cell? ⟨b, off + k * 3 + 1, none⟩ = some (.int .i64 l[k].n) ∧ w.cell? ⟨b, off + k * 3 + 2, none⟩ = some (.bool l[k].w) := by
  obtain ⟨b, off, ha, hc⟩ := h.elem enL_len (by decide) k hk
  exact ⟨b, off, ha, hc 0 _ rfl, hc 1 _ rfl, hc 2 _ rfl⟩

def entE (e : En) : Int := if e.k < 0 ∨ 2 < e.k then 1 else if e.n < 0 ∨ 40 ≤ e.n ∧ e.k = 1 ∨ 60 ≤ e.n then 3 else if e.k = 0 ∧ (e.n ≠ 0 ∨ e.w = true) ∨ e.k = 2 ∧ e.w = true then 7 else 0
set_option maxHeartbeats 2000000 in
set_option maxRecDepth 100000 in
theorem entry_any (e : En) (w : World) : Calls Try.prog 57 #[.agg #[.int .i64 e.k, .int .i64 e.n, .bool e.w]] w fun r w' => r = .returned (.int .i64 (entE e)) ∧ Below w.heap.size w w' := by
  go_enter Try.func57, Try.ntmps57
  go_wp2
  all_goals go_ret
  all_goals refine ⟨?_, (Below.refl _ _).alloc (Nat.le_refl _) _⟩
  all_goals go_light
  all_goals refine congrArg (fun z => Ending.returned (.int .i64 z)) ?_
  all_goals simp only [entE]
  all_goals simp_all
  all_goals omega

def halfE (h : List En) : Int := if h.length ≠ 0 ∧ h.length ≠ 8 then 2 else if firstE (h.map entE) ≠ 0 then firstE (h.map entE) else if 0 < h.length ∧ h.any (fun e => decide (e.k ≠ 0)) = false then 2 else 0
def wrongT (t : Tb) : Int := firstE (t.toList.map halfE)
def anyN (h : List En) (k : Nat) : Bool := (h.take k).any (fun e => decide (e.k ≠ 0))
theorem anyN_zero (h : List En) : anyN h 0 = false := rfl
theorem anyN_succ (h : List En) (k : Nat) (hk : k < h.length) : anyN h (k + 1) = (anyN h k || decide (h[k].k ≠ 0)) := by
  unfold anyN
  rw [List.take_add_one, List.any_append, List.getElem?_eq_getElem hk]
  simp
theorem anyN_all (h : List En) (k : Nat) (hk : h.length ≤ k) : anyN h k = h.any (fun e => decide (e.k ≠ 0)) := by
  unfold anyN
  rw [List.take_of_length_le hk]
theorem wrongT_none {t : Tb} (h : ∀ i (hi : i < 8), halfE t[i] = 0) : wrongT t = 0 := firstE_none fun i hi => by simpa using h i (by simpa using hi)
theorem wrongT_at {t : Tb} (k : Nat) (hk : k < 8) (h : ∀ i (hi : i < 8), i < k → halfE t[i] = 0) (hne : halfE t[k] ≠ 0) : wrongT t = halfE t[k] := by
  have := firstE_at (l := t.toList.map halfE) k (by simpa using hk) (fun i hi hik => by simpa using h i (by simpa using hi) hik) (by simpa using hne)
  rw [wrongT, this]; simp
theorem halfE_form {h : List En} (h1 : h.length ≠ 0 ∧ h.length ≠ 8) : halfE h = 2 := by unfold halfE; rw [if_pos h1]
theorem halfE_at {h : List En} (h1 : h.length = 0 ∨ h.length = 8) (k : Nat) (hk : k < h.length) (hp : ∀ i (hi : i < h.length), i < k → entE h[i] = 0) (hne : entE h[k] ≠ 0) : halfE h = entE h[k] := by
  have := firstE_at (l := h.map entE) k (by simpa using hk) (fun i hi hik => by simpa using hp i (by simpa using hi) hik) (by simpa using hne)
  have e : firstE (h.map entE) = entE h[k] := by rw [this]; simp
  unfold halfE; rw [if_neg (by omega), e, if_pos hne]
theorem halfE_end {h : List En} (h1 : h.length = 0 ∨ h.length = 8) (hp : ∀ i (hi : i < h.length), entE h[i] = 0) : halfE h = if 0 < h.length ∧ h.any (fun e => decide (e.k ≠ 0)) = false then 2 else 0 := by
  have := firstE_none (l := h.map entE) (fun i hi => by simpa using hp i (by simpa using hi))
  unfold halfE; rw [if_neg (by omega), this, if_neg (by omega)]

set_option maxHeartbeats 2000000 in
set_option maxRecDepth 100000 in
theorem twrong_any (t : Tb) (cs : Array Value) (w : World) (h : TbR w cs t) : Calls Try.prog 14 #[.agg cs] w fun r w' => r = .returned (.int .i64 (wrongT t)) ∧ Below w.heap.size w w' := by
  go_enter Try.func14, Try.ntmps14
  go_upto_region 1 with (fail)
  refine abs1 (fun W => Code.wp _ _ _ _ W) fun W0 hb0 hx0 hs0 => ?_
  clear hs0
  go_wp2_with (refine wpList_ld rfl 24 (.tmp 1) rfl w.heap.size 0 rfl cs.toList hx0.rd _ Try.underlying24 tab_agg (by rw [Array.length_toList, h.sz]; exact tab_size) ?_)
  clear hx0
  go_loopw [10] (fun i wr => ∃ k : Nat, k ≤ 8 ∧ i = .int .i64 k ∧ Below w.heap.size w wr ∧ ∀ i (hi : i < 8), i < k → halfE t[i] = 0) (fun i _ => 8 - (intOf i).toNat)
  case atStart => exact ⟨0, Nat.zero_le _, rfl, hb0, fun i _ h => absurd h (Nat.not_lt_zero _)⟩
  case round =>
    obtain ⟨k, hk, rfl, hbr, hp0⟩ := hrel
    have hp := Lib.hid hp0
    clear hp0 hb0
    by_cases hlt : k < 8
    · obtain ⟨a, c, hcs, hle, hmx, hnil, hrd⟩ := h.at' k hlt
      have hix := fun W => idx_tab hlt hcs W
      have hd8 : decide ((k : Int) < 8) = true := by simp; omega
      unfold maxLen at hmx
      clear hcs
      by_cases h08 : t[k].length = 0 ∨ t[k].length = 8
      · have H08 := Lib.hid h08
        have q1 : ((t[k].length : Int) != 0) = true ∧ ((t[k].length : Int) != 8) = false ∨ ((t[k].length : Int) != 0) = false ∧ ((t[k].length : Int) != 8) = true := by
          rcases h08 with e | e <;> simp [e]
        clear h08
        rcases q1 with ⟨q1, q2⟩ | ⟨q1, q2⟩
        all_goals
          go_wp2
          clear hix
          go_loopw [23, 5] (fun i s wr' => ∃ j : Nat, j ≤ t[k].length ∧ i = .int .i64 j ∧ s = .bool (anyN t[k] j) ∧ Below w.heap.size w wr' ∧ ∀ i (hi : i < t[k].length), i < j → entE t[k][i] = 0) (fun i _ _ => t[k].length - (intOf i).toNat)
          case atStart => exact ⟨0, Nat.zero_le _, rfl, rfl, hbr, fun i _ h => absurd h (Nat.not_lt_zero _)⟩
          case round =>
            obtain ⟨j, hj, rfl, rfl, hbq, hq0⟩ := hrel
            have hq := Lib.hid hq0
            clear hq0 hbr
            by_cases hjl : j < t[k].length
            · obtain ⟨b, off, rfl, c0, c1, c2⟩ := en_at (hrd.below hbq) j hjl
              go_wp2_with fail
              refine abs1 (fun W => Calls _ _ _ W _) fun W3 hb3 hx3 hs3 => ?_
              have hbel3 := below_next hbq hb3
              clear hbq hs3 c0 c1 c2 hb3
              refine (entry_any t[k][j] _).mono ?_
              rintro e w4 ⟨rfl, hb4⟩
              have hbel4 := below_next hbel3 hb4
              have hx4 := (hx3.ext hb4).cell
              clear hx3 hb4 hbel3
              by_cases he : entE t[k][j] = 0
              · have hen := anyN_succ t[k] j hjl
                have he' := Lib.hid he
                rw [he]
                clear he
                cases hs : anyN t[k] j
                all_goals
                  rw [hs] at hen
                  go_wp2
                  go_roundw
                  case rel => exact ⟨j + 1, by omega, by go_num, by rw [hen]; first | rfl | (congr 1; rw [Bool.eq_iff_iff]; simp), hbel4, upto' hq.out hjl he'.out⟩
                  case measure => simp [intOf]; omega
              · have he2 : (entE t[k][j] != 0) = true := by simpa using he
                have hfin := Lib.hid (wrongT_at k hlt hp.out (by rw [halfE_at H08.out j hjl hq.out he]; exact he))
                have hfin2 := Lib.hid (halfE_at H08.out j hjl hq.out he)
                go_wp2
                go_ret
                exact ⟨ret_int (hfin.out.trans hfin2.out).symm, hbel4⟩
            · have hend := Lib.hid (halfE_end H08.out fun i hi => hq.out i hi (by omega))
              have hall := Lib.hid (anyN_all t[k] j (by omega))
              by_cases hgo : 0 < t[k].length ∧ anyN t[k] j = false
              · obtain ⟨g1, g2⟩ := hgo
                have hfin2 := Lib.hid (hend.out.trans (if_pos ⟨g1, hall.out ▸ g2⟩))
                have hfin := Lib.hid (wrongT_at k hlt hp.out (by rw [hfin2.out]; decide))
                rw [g2]
                go_wp2
                go_ret
                exact ⟨ret_int (hfin.out.trans hfin2.out).symm, hbq⟩
              · have hfin2 := Lib.hid (hend.out.trans (if_neg (fun h => hgo ⟨h.1, hall.out.trans h.2⟩)))
                have hgo2 : ¬ 0 < t[k].length ∨ 0 < t[k].length ∧ anyN t[k] j = true := by
                  by_cases hz : 0 < t[k].length
                  · exact .inr ⟨hz, by simpa [hz] using hgo⟩
                  · exact .inl hz
                clear hgo
                rcases hgo2 with g1 | ⟨g1, g2⟩
                · go_wp2
                  go_roundw
                  case rel => exact ⟨k + 1, by omega, by go_num, hbq, upto' hp.out hlt hfin2.out⟩
                  case measure => simp [intOf]; omega
                · rw [g2]
                  go_wp2
                  go_roundw
                  case rel => exact ⟨k + 1, by omega, by go_num, hbq, upto' hp.out hlt hfin2.out⟩
                  case measure => simp [intOf]; omega
      · have q1 : ((t[k].length : Int) != 0) = true := by rw [bne_iff_ne]; omega
        have q2 : ((t[k].length : Int) != 8) = true := by rw [bne_iff_ne]; omega
        have hfin2 := Lib.hid (halfE_form (h := t[k]) (by omega))
        have hfin := Lib.hid (wrongT_at k hlt hp.out (by rw [hfin2.out]; decide))
        go_wp2
        go_ret
        exact ⟨ret_int (hfin.out.trans hfin2.out).symm, hbr⟩
    · have hfin := Lib.hid (wrongT_none fun i hi => hp.out i hi (by omega))
      go_wp2
      go_ret
      exact ⟨ret_int hfin.out.symm, hbr⟩
end Go.Proofs.Ytmdnmknmniabeaa
