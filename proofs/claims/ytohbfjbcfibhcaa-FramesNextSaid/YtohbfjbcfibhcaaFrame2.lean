/- Memories as data; what package frames' Own, Wrong, Free, New do. -/
import Derived.Test.YtohbfjbcfibhcaaFrame
import Derived.Test.YtohbfjbcfibhcaaDisk8
namespace Go.Proofs.Ytohbfjbcfibhcaa
open Go.RowKit Pw
set_option linter.unusedSimpArgs false
set_option linter.unusedVariables false

/-- One cell of an element of a slice of one's own. -/
theorem own_cell {α : Type} {enc : α → List Value} {sz : Nat} (hsz : ∀ x, (enc x).length = sz) (hp : 0 < sz) {w : World} {B n : Nat} {e : TypeId} {v : Value} {l : List α} (hl : l.length = n) (h : Own w B e sz v n (l.flatMap enc)) (k : Nat) (hk : k < n) (j : Nat) (hj : j < sz) (u : Value) (x : α)
    (hx : enc x = (enc (l[k]'(by omega))).set j u) :
    ∃ g off cap, v = .slice (some ⟨g, off, none⟩) n cap ∧ B ≤ g ∧ g < w.heap.size ∧ (∃ cs, Blk w g cs e) ∧ (∀ i y, (enc (l[k]'(by omega)))[i]? = some y → w.cell? ⟨g, off + k * sz + i, none⟩ = some y) ∧ w.frozen? ⟨g, off + k * sz + j, none⟩ = false ∧
      Own (w.setCell ⟨g, off + k * sz + j, none⟩ u) B e sz v n ((l.set k x).flatMap enc) := by
  subst hl
  obtain ⟨g, off, cap, cur, h1, h2, h3, h4, h5, h6⟩ := h.put hsz hp k hk
  refine ⟨g, off, cap, h1, h2, h3.lt, ⟨_, h3⟩, h5, h3.free _, h6 _ x ?_⟩
  have he : putAt cur (off + k * sz) (enc x) = cur.setIfInBounds (off + k * sz + j) u := by
    apply Array.ext_getElem?
    intro i
    by_cases hi : off + k * sz ≤ i ∧ i < off + k * sz + sz
    · obtain ⟨m, rfl⟩ : ∃ m, i = off + k * sz + m := ⟨i - (off + k * sz), by omega⟩
      have hm : m < (enc x).length := by rw [hsz]; omega
      rw [putAt_in _ _ _ m (enc x)[m] (by rw [hsz]; omega) (List.getElem?_eq_getElem hm)]
      by_cases hmj : m = j
      · subst hmj
        rw [Array.getElem?_setIfInBounds_self_of_lt (by omega)]
        simp [hx]
      · rw [Array.getElem?_setIfInBounds_ne (by omega)]
        have hm' : m < (enc l[k]).length := by rw [hsz]; omega
        have := h5 m (enc l[k])[m] (List.getElem?_eq_getElem hm')
        rw [h3.cell] at this
        rw [this]
        simp [hx, List.getElem_set_ne (fun e => hmj e.symm)]
    · rw [putAt_out _ _ _ _ (by rw [hsz]; omega), Array.getElem?_setIfInBounds_ne (by omega)]
  rw [he]
  exact h3.setCell _ _

theorem frame_info : (Try.prog.info? 72).map (fun i => (i.zero, i.size, i.bytes)) = some (some (.agg #[.int .u8 0, .int .u8 0, .int .u8 0, .int .u8 0, .int .u8 0, .int .u8 0, .int .u8 0, .int .u8 0, .int .i64 0, .bool false, .bool false, .int .i64 0, .int .i64 0]), 13, 40) := by kernel_rfl
theorem frame_size : (Try.prog.info? 72).map (·.size) = some 13 := by kernel_rfl
theorem frames_len (l : List Fr) : (l.flatMap frL).length = l.length * 13 := flat_len frL 13 frL_len l
theorem frC_one (f : Fr) : (frC f).all (·.oneCell') = true := by simp [frC, Value.oneCell']
theorem frames_one (l : List Fr) : ∀ u ∈ l.flatMap frL, u.oneCell' = true := by
  intro u hu
  obtain ⟨p, _, hp⟩ := List.mem_flatMap.1 hu
  simp only [frL, frC, List.mem_cons, List.not_mem_nil, or_false] at hp
  rcases hp with rfl | rfl | rfl | rfl | rfl | rfl | rfl | rfl | rfl | rfl | rfl | rfl | rfl <;> rfl
set_option maxHeartbeats 400000 in
set_option maxRecDepth 100000 in
theorem clone_frames (l : List Fr) (a : Option Addr) (c : Nat) (w : World) (hle : l.length ≤ c) (hnil : a = none → c = 0) (hrd : RdV w a (l.flatMap frL)) (hb : l.length * 40 ≤ 140737488355328) :
    Calls Try.prog 76 #[.slice a l.length c] w fun e w' => ∃ v, e = .returned v ∧ Own w' w.heap.size 72 13 v l.length (l.flatMap frL) ∧ Below w.heap.size w w' := by
  cases a with
  | none =>
    have h0 := hnil rfl
    have hl : l = [] := List.eq_nil_of_length_eq_zero (by omega)
    subst hl
    subst h0
    have hq := fun W => Lib.run_eql_slice_nil (P := Try.prog) W 62 _ none 0 0 0 0 Try.underlying62
    go_enter Try.func76, Try.ntmps76
    go_wp2
    go_ret
    exact ⟨_, rfl, by simpa using Own.nil _ _ _ _, Below.refl _ _⟩
  | some ad =>
    have hq := fun W => Lib.run_eql_slice_nil (P := Try.prog) W 62 _ (some ad) l.length c 0 0 Try.underlying62
    go_enter Try.func76, Try.ntmps76
    go_wp2_with (at_builtin; go_must (refine wpList_app rfl _ _ 62 rfl w.heap.size 72 (.agg #[.int .u8 0, .int .u8 0, .int .u8 0, .int .u8 0, .int .u8 0, .int .u8 0, .int .u8 0, .int .u8 0, .int .i64 0, .bool false, .bool false, .int .i64 0, .int .i64 0]) 13 40 Try.underlying62 frame_info rfl (by decide) _ 0 [] rfl ?own (some ad) l.length c (l.flatMap frL) rfl (fun h => (by cases h)) hle (frames_len l) ?rd (frames_one l) (by unfold maxLen; omega) (by simpa using hb) ?bb ?k))
    case own => exact ⟨rfl, .inr ⟨w.heap.size, 0, 0, #[], rfl, Nat.le_refl _, Blk.new _ _ _, Nat.le_refl _, Nat.zero_le _, by simp, fun j u h => by simp at h⟩⟩
    case rd => exact hrd.below ((Below.refl _ _).alloc (Nat.le_refl _) _)
    case bb => exact le_alloc _ _
    intro v w1 hown hgr
    go_wp2
    go_ret
    exact ⟨v, rfl, by simpa using hown, ((Below.refl _ _).alloc (Nat.le_refl _) _).grown hgr (le_alloc _ _) (fun k hk => by cases hk; exact Nat.le_refl _)⟩

structure Mem where
  fs : List Fr
  hand : Int
  deriving DecidableEq
structure MRd (w : World) (a : Option Addr) (c : Nat) (m : Mem) : Prop where
  le : m.fs.length ≤ c
  mx : c ≤ maxLen
  nil : a = none → c = 0
  rd : RdV w a (m.fs.flatMap frL)
theorem MRd.below {w w' : World} {a : Option Addr} {c : Nat} {m : Mem} (h : MRd w a c m) (hb : Below w.heap.size w w') : MRd w' a c m := { h with rd := h.rd.below hb }
theorem mown_rd {w : World} {B : Nat} {v : Value} {m : Mem} (h : Own w B 72 13 v m.fs.length (m.fs.flatMap frL)) : ∃ a c, v = .slice a m.fs.length c ∧ MRd w a c m := by
  obtain ⟨a, c, rfl, h1, h2, h3, h4⟩ := h.rd
  exact ⟨a, c, rfl, h1, h2, h3, h4⟩

def firstE : List Fr → Int
  | [] => 0
  | f :: r => if frameE f ≠ 0 then frameE f else firstE r
theorem firstE_at : ∀ (l : List Fr) (k : Nat) (hk : k < l.length), (∀ i (h : i < l.length), i < k → frameE l[i] = 0) → frameE l[k] ≠ 0 → firstE l = frameE l[k]
  | f :: r, 0, _, _, h => by unfold firstE; exact if_pos h
  | f :: r, k + 1, hk, hp, h => by
    unfold firstE
    rw [if_neg (fun hh => hh (hp 0 (by simp) (by omega)))]
    exact firstE_at r k (by simpa using hk) (fun i hi hik => hp (i + 1) (by simpa using hi) (by omega)) h
theorem firstE_none : ∀ (l : List Fr), (∀ i (h : i < l.length), frameE l[i] = 0) → firstE l = 0
  | [], _ => rfl
  | f :: r, hp => by
    unfold firstE
    rw [if_neg (fun hh => hh (hp 0 (by simp)))]
    exact firstE_none r (fun i hi => hp (i + 1) (by simpa using hi))
def wrongM (m : Mem) : Int := if 40 < m.fs.length then 4 else if firstE m.fs ≠ 0 then firstE m.fs else if m.hand < 0 ∨ (0 < m.hand ∧ (m.fs.length : Int) ≤ m.hand) then 3 else 0
set_option maxHeartbeats 1000000 in
set_option maxRecDepth 100000 in
theorem mwrong_any (m : Mem) (a : Option Addr) (c : Nat) (w : World) (h : MRd w a c m) :
    Calls Try.prog 43 #[.agg #[.slice a m.fs.length c, .int .i64 m.hand]] w fun e w' => e = .returned (.int .i64 (wrongM m)) ∧ Below w.heap.size w w' := by
  have hl := Nat.le_trans h.le h.mx
  unfold maxLen at hl
  go_enter Try.func43, Try.ntmps43
  go_upto_region 1 with (fail)
  refine abs1 (fun W => Code.wp _ _ _ _ W) fun W0 hb0 hx0 hs0 => ?_
  clear hs0
  have hcx := hx0.cell
  have h0 := h.below hb0
  by_cases h4 : 40 < m.fs.length
  · have hW : wrongM m = 4 := by unfold wrongM; rw [if_pos h4]
    have h4' : (40 : Int) < (m.fs.length : Int) := by omega
    go_wp2
    go_ret
    rw [hW]
    exact ⟨rfl, hb0⟩
  · have h4' : ¬ (40 : Int) < (m.fs.length : Int) := by omega
    go_wp2
    go_loopw [12] (fun i wr => ∃ k : Nat, k ≤ m.fs.length ∧ i = .int .i64 k ∧ W0 = wr ∧ ∀ i (h : i < m.fs.length), i < k → frameE m.fs[i] = 0) (fun i _ => m.fs.length - (intOf i).toNat)
    case atStart => exact ⟨0, Nat.zero_le _, rfl, rfl, fun i _ h => absurd h (Nat.not_lt_zero _)⟩
    case round =>
      obtain ⟨k, hk, rfl, rfl, hno⟩ := hrel
      have hno' := Lib.hid hno
      clear hno
      by_cases hlt : k < m.fs.length
      · obtain ⟨b, off, rfl, hc⟩ := fr_at h0.rd k hlt
        have hkz : (k : Int) < (m.fs.length : Int) := by omega
        by_cases he : frameE m.fs[k] = 0
        · have he' := Lib.hid he
          have hf := frame_any m.fs[k] b _ _ hc
          rw [he] at hf
          clear he hc
          go_wp2_with fail
          refine hf.mono ?_
          rintro e w2 ⟨rfl, rfl⟩
          go_wp2
          go_roundw
          case rel => exact ⟨k + 1, by omega, by go_num, trivial, upto' hno'.out hlt he'.out⟩
          case measure => simp [intOf]; omega
        · have hf := frame_any m.fs[k] b _ _ hc
          have hW : wrongM m = frameE m.fs[k] := by
            have := firstE_at _ k hlt hno'.out he
            unfold wrongM; rw [if_neg h4, this, if_pos he]
          have hn : (frameE m.fs[k] != 0) = true := by simpa using he
          clear hc
          have hW' := Lib.hid hW
          clear hW
          go_wp2_with fail
          refine hf.mono ?_
          rintro e w2 ⟨rfl, rfl⟩
          go_wp2
          go_ret
          rw [hW'.out]
          exact ⟨rfl, hb0⟩
      · have h0 : firstE m.fs = 0 := firstE_none _ (fun i hi => hno'.out i hi (by omega))
        have hW : wrongM m = if m.hand < 0 ∨ (0 < m.hand ∧ (m.fs.length : Int) ≤ m.hand) then 3 else 0 := by
          unfold wrongM; rw [if_neg h4, h0]; rfl
        have hW' := Lib.hid hW
        clear hW h0
        by_cases n1 : m.hand < 0
        · go_wp2
          all_goals
            go_ret
            rw [hW'.out, if_pos (.inl n1)]
            exact ⟨rfl, hb0⟩
        · by_cases n2 : (0 : Int) < m.hand
          · by_cases n3 : (m.fs.length : Int) ≤ m.hand
            · go_wp2
              all_goals
                go_ret
                rw [hW'.out, if_pos (.inr ⟨n2, n3⟩)]
                exact ⟨rfl, hb0⟩
            · go_wp2
              all_goals
                go_ret
                rw [hW'.out, if_neg (by omega)]
                exact ⟨rfl, hb0⟩
          · go_wp2
            all_goals
              go_ret
              rw [hW'.out, if_neg (by omega)]
              exact ⟨rfl, hb0⟩
end Go.Proofs.Ytohbfjbcfibhcaa
