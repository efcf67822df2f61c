/- The document's Room. -/
import Derived.Test.YtmdnmknmniabeaaAo6
namespace Go.Proofs.Ytmdnmknmniabeaa
open Go.RowKit Pw
set_option linter.unusedSimpArgs false
set_option linter.unusedVariables false

def freeAt (l : List Ar) (k n : Int) : Prop := ∀ i, k ≤ i → i < k + n → onA l i = none
theorem hole_free {l : List Ar} (h : okF none l) (k n : Int) (hn : 1 ≤ n) : (∀ a ∈ l, meetsA (holeA k n) a = false) ↔ freeAt l k n := by
  constructor
  · intro hm i h1 h2
    cases ho : onA l i with
    | none => rfl
    | some p =>
      exfalso
      have hh := (find_on l i).2 (by rw [ho]; simp)
      have := idx_any (inA i) l
      rw [show decide (0 ≤ idx (inA i) l) = true from decide_eq_true hh] at this
      obtain ⟨a, ha, hin⟩ := List.any_eq_true.1 this.symm
      obtain ⟨q1, q2⟩ := inA_iff.1 hin
      have hma : (decide (a.fr < k + n) && decide (k < a.en)) = false := hm a ha
      rw [decide_eq_true (by omega), decide_eq_true (by omega)] at hma
      cases hma
  · intro hf a ha
    have hlt := (areaE_few (srtF_ok (okF_srt0 h) a ha).1).2.1
    show (decide (a.fr < k + n) && decide (k < a.en)) = false
    by_cases c1 : a.fr < k + n
    · by_cases c2 : k < a.en
      · exfalso
        have h1 := hf (max k a.fr) (by omega) (by omega)
        exact on_mem ha (inA_iff.2 (by omega)) h1
      · rw [decide_eq_false c2, Bool.and_false]
    · rw [decide_eq_false c1, Bool.false_and]
theorem room_out {l : List Ar} (h : (wrongA l).1 = 0) {n : Int} (hn : n < 1 ∨ 64 < n) : roomA l n = -1 := by
  obtain ⟨h1, h2⟩ := wrongA_iff.1 h
  obtain ⟨g1, _, _⟩ := room_go n (okF_srt0 h2)
  unfold roomA
  rw [if_pos (by omega)]
theorem room_is {l : List Ar} (h : (wrongA l).1 = 0) {n k : Int} (hn : 1 ≤ n) (hk : 0 ≤ k ∧ k ≤ 64 - n) (hno : ∀ i, 0 ≤ i → i < k → ¬ freeAt l i n) (hf : freeAt l k n) : roomA l n = k := by
  obtain ⟨h1, h2⟩ := wrongA_iff.1 h
  obtain ⟨g1, g2, g3⟩ := room_go n (okF_srt0 h2)
  have hT : roomGo n 0 l = k := by
    rcases Int.lt_trichotomy (roomGo n 0 l) k with c | c | c
    · exact absurd ((hole_free h2 _ n hn).1 g2) (hno _ g1 c)
    · exact c
    · obtain ⟨a, ha, hm⟩ := g3 k hk.1 c
      have := (hole_free h2 k n hn).2 hf a ha
      rw [this] at hm
      cases hm
  unfold roomA
  rw [hT, if_neg (by omega)]
theorem room_none {l : List Ar} (h : (wrongA l).1 = 0) {n : Int} (hn : 1 ≤ n ∧ n ≤ 64) (hno : ∀ i, 0 ≤ i → i ≤ 64 - n → ¬ freeAt l i n) : roomA l n = -1 := by
  obtain ⟨h1, h2⟩ := wrongA_iff.1 h
  obtain ⟨g1, g2, g3⟩ := room_go n (okF_srt0 h2)
  unfold roomA
  rw [if_pos]
  right
  by_cases c : roomGo n 0 l ≤ 64 - n
  · exact absurd ((hole_free h2 _ n hn.1).1 g2) (hno _ g1 c)
  · omega
set_option maxHeartbeats 4000000 in
set_option maxRecDepth 100000 in
theorem rroom_any (l : List Ar) (n : Int) (a : Option Addr) (c : Nat) (w : World) (h : AsR w a c l) (hw : (wrongA l).1 = 0) :
    Calls Try.prog 55 #[.slice a l.length c, .int .i64 n] w fun r w' => r = .returned (.int .i64 (roomA l n)) ∧ Below w.heap.size w w' := by
  have hall := wrongA_iff.1 hw
  have hw0 := Lib.hid hw
  have hsr := okF_srt0 hall.2
  have hl16 := hall.1
  clear hw hall
  go_enter Try.func55, Try.ntmps55
  go_wp2_with fail
  refine (ones_any l a c _ h.rd (by omega) (fun x hx => (srtF_ok hsr x hx).1)).mono ?_
  rintro r w4 ⟨rfl, hb4⟩
  go_upto_region 2 with (refine wpList_stn rfl _ _ _ rfl (fC (onesF l)) rfl rfl (by rw [fC_size]; rfl) (by rw [fC_size]; exact ones_size) (vsC_one _) ?_)
  intro w5 hb5 ho5
  have hbel5 := below_next hb4 hb5
  obtain ⟨go, hgo⟩ : ∃ g, g = w4.heap.size := ⟨_, rfl⟩
  rw [← hgo] at ho5 ⊢
  clear hgo hb4 hb5
  by_cases n1 : n < 1
  · have hz := Lib.hid (room_out hw0.out (.inl n1))
    have n1' : ¬ 1 ≤ n := by omega
    go_upto_region 3 with (fail)
    go_loopw [6] (fun i wr => i = .int .i64 0 ∧ Below w.heap.size w wr) (fun _ _ => 0)
    case atStart => exact ⟨rfl, hbel5⟩
    case round =>
      clear hbel5 ho5
      obtain ⟨rfl, hbr⟩ := hrel
      go_wp2
      go_ret
      exact ⟨ret_int hz.out.symm, hbr⟩
  · by_cases n2 : 64 < n
    · have hz := Lib.hid (room_out hw0.out (.inr n2))
      have n1' : 1 ≤ n := by omega
      have n2' : ¬ n ≤ 64 := by omega
      go_upto_region 3 with (fail)
      go_loopw [6] (fun i wr => i = .int .i64 0 ∧ Below w.heap.size w wr) (fun _ _ => 0)
      case atStart => exact ⟨rfl, hbel5⟩
      case round =>
        clear hbel5 ho5
        obtain ⟨rfl, hbr⟩ := hrel
        go_wp2
        go_ret
        exact ⟨ret_int hz.out.symm, hbr⟩
    · have n1' : 1 ≤ n := by omega
      have n2' : n ≤ 64 := by omega
      have hwn : IntKind.i64.wrap (64 - n) = 64 - n := IntWalk.i64_in _ (by omega)
      go_upto_region 3 with (fail)
      go_loopw [6] (fun i wr => ∃ A : Nat, (A : Int) ≤ 65 - n ∧ i = .int .i64 A ∧ Below w.heap.size w wr ∧ Blk wr go (fC (onesF l)) 78 ∧ ∀ i : Int, 0 ≤ i → i < A → ¬ freeAt l i n) (fun i _ => (66 - n - intOf i).toNat)
      case atStart => exact ⟨0, by omega, rfl, hbel5, ho5, fun i h1 h2 => by omega⟩
      case round =>
        clear hbel5 ho5
        obtain ⟨A, hA, rfl, hbr, ho, hno0⟩ := hrel
        have hno := Lib.hid hno0
        clear hno0
        by_cases hlt : (A : Int) ≤ 64 - n
        · have hwa : IntKind.i64.wrap ((A : Int) + n) = (A : Int) + n := IntWalk.i64_in _ (by omega)
          go_upto_region 7 with (fail)
          go_loopw [8, 7] (fun i u wr => ∃ (K : Nat) (fb : Bool), (A : Int) ≤ (K : Int) ∧ (K : Int) ≤ (A : Int) + n ∧ i = .int .i64 K ∧ u = .bool fb ∧ Below w.heap.size w wr ∧ Blk wr go (fC (onesF l)) 78 ∧ Hid (fb = true ↔ ∀ j : Int, (A : Int) ≤ j → j < K → onA l j = none)) (fun i _ _ => ((A : Int) + n - intOf i).toNat)
          case atStart => exact ⟨A, true, Int.le_refl _, by omega, rfl, rfl, hbr, ho, Lib.hid ⟨fun _ j h1 h2 => by omega, fun _ => rfl⟩⟩
          case round =>
            clear hbr ho
            obtain ⟨K, fb, hK0, hK1, rfl, rfl, hbr, ho, hfb⟩ := hrel
            by_cases hKe : (K : Int) < (A : Int) + n
            · have hK64 : K < 64 := by omega
              have hK64i : (K : Int) < 64 := by omega
              have d0 : wr.cell? ⟨go, K * 6, none⟩ = some (.bool (onA l K).isSome) := by
                rw [ho.cell]
                exact fC_cell (onesF l) K 0 hK64 _ (by rw [onesF_on hsr]; rfl) (by decide)
              cases fb
              · have hn2 : Hid (false = true ↔ ∀ j : Int, (A : Int) ≤ j → j < (K : Int) + 1 → onA l j = none) := Lib.hid ⟨fun h => (by cases h), fun h => hfb.out.2 (fun j h1 h2 => h j h1 (by omega))⟩
                clear hfb
                go_wp2
                go_roundw
                case rel => exact ⟨K + 1, false, by omega, by omega, by go_num, rfl, hbr, ho, hn2⟩
                case measure => simp [intOf]; omega
              · have hfb' := hfb.out.1 rfl
                cases hon : onA l (K : Int) with
                | none =>
                  rw [hon] at d0
                  simp only [Option.isSome] at d0
                  have hn2 : Hid (true = true ↔ ∀ j : Int, (A : Int) ≤ j → j < (K : Int) + 1 → onA l j = none) := Lib.hid ⟨fun _ j h1 h2 => by
                    by_cases hj : j = (K : Int)
                    · rw [hj]; exact hon
                    · exact hfb' j h1 (by omega), fun _ => rfl⟩
                  clear hfb hfb' hon
                  go_wp2
                  go_roundw
                  case rel => exact ⟨K + 1, true, by omega, by omega, by go_num, rfl, hbr, ho, hn2⟩
                  case measure => simp [intOf]; omega
                | some p =>
                  rw [hon] at d0
                  simp only [Option.isSome] at d0
                  have hn2 : Hid (false = true ↔ ∀ j : Int, (A : Int) ≤ j → j < (K : Int) + 1 → onA l j = none) := Lib.hid ⟨fun h => (by cases h), fun h => by
                    have := h K hK0 (by omega)
                    rw [hon] at this
                    cases this⟩
                  clear hfb hfb' hon
                  go_wp2
                  go_roundw
                  case rel => exact ⟨K + 1, false, by omega, by omega, by go_num, rfl, hbr, ho, hn2⟩
                  case measure => simp [intOf]; omega
            · have hKe' := Lib.hid (show (K : Int) = (A : Int) + n by omega)
              cases fb
              · have hnf : Hid (∀ i : Int, 0 ≤ i → i < (A : Int) + 1 → ¬ freeAt l i n) := Lib.hid (fun i h1 h2 => by
                  by_cases hi : i = (A : Int)
                  · subst hi
                    intro hf
                    have := hfb.out.2 (fun j q1 q2 => hf j q1 (by have := hKe'.out; omega))
                    cases this
                  · exact hno.out i h1 (by omega))
                clear hfb
                go_wp2
                go_roundw
                case rel => exact ⟨A + 1, by omega, by go_num, hbr, ho, fun i h1 h2 => hnf.out i h1 (by omega)⟩
                case measure => simp [intOf]; omega
              · have hz := Lib.hid (room_is hw0.out n1' ⟨by omega, hlt⟩ hno.out (fun j q1 q2 => hfb.out.1 rfl j q1 (by have := hKe'.out; omega)))
                clear hfb
                go_wp2
                go_ret
                exact ⟨ret_int hz.out.symm, hbr⟩
        · have hz := Lib.hid (room_none hw0.out ⟨n1', n2'⟩ (fun i h1 h2 => hno.out i h1 (by omega)))
          go_wp2
          go_ret
          exact ⟨ret_int hz.out.symm, hbr⟩
end Go.Proofs.Ytmdnmknmniabeaa
