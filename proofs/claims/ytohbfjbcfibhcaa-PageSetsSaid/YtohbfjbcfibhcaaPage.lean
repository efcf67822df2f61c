/- What package page's functions, and the document's, do to pages. -/
import Derived.Test.YtohbfjbcfibhcaaRows
import Derived.Test.YtohbfjbcfibhcaaRep
namespace Go.Proofs.Ytohbfjbcfibhcaa
open Go.RowKit Pw
set_option linter.unusedSimpArgs false
set_option linter.unusedVariables false

set_option maxHeartbeats 400000 in
theorem cut_any (p : Page) (a : Int) (w : World) :
    Calls Try.prog 17 #[.agg (pgC p), .int .i64 a] w fun e w' => e = .returned (.agg (pgC (cutPage p a))) ∧ Below w.heap.size w w' := by
  go_enter Try.func17, Try.ntmps17
  go_wp2
  all_goals
    go_loopw [5] (fun i wr => ∃ k : Nat, a ≤ k ∧ i = .int .i64 k ∧ wr = ((w.alloc (.cells (pgC (cutTo p a k)) 23)).alloc (.cells #[.int .u8 0, .int .u8 0, .int .u8 0, .int .u8 0, .int .u8 0, .int .u8 0, .int .u8 0, .int .u8 0] 23))) (fun i _ => 8 - (intOf i).toNat)
    case atStart => exact ⟨a.toNat, by omega, by congr 1; omega, by rw [cutTo_start p a _ rfl]⟩
    case round =>
      obtain ⟨k, ha, rfl, rfl⟩ := hrel
      by_cases hlt : k < 8
      · have hg := pgC_get (cutTo p a k) k hlt
        have hs : (pgC (cutTo p a k)).setIfInBounds k (.int .u8 0) = pgC (cutTo p a (k + 1)) := by
          rw [← cutTo_set p a k hlt ha]; exact pgC_set _ k hlt 0
        go_wp2
        go_roundw
        case rel => exact ⟨k + 1, by omega, by go_num, rfl⟩
        case measure => simp [intOf]; omega
      · rw [cutTo_end p a k (by omega)]
        obtain ⟨e0, e1, e2, e3, e4, e5, e6, e7⟩ := pgC_all (cutPage p a)
        go_wp2
        simp [bodyPost, results, go_sem, Try.results17]
        exact ⟨rfl, ((Below.refl _ _).alloc (Nat.le_refl _) _).alloc (by simp) _⟩
theorem byte_info : (Try.prog.info? 5).map (fun i => (i.zero, i.size, i.bytes)) = some (some (.int .u8 0), 1, 1) := by kernel_rfl
theorem get_len (p : Page) (a n : Nat) (h : n ≤ 8 - a) : ((p.toList.drop a).take n).length = n := by simp; omega

set_option maxHeartbeats 400000 in
set_option maxRecDepth 100000 in
theorem get_in (p : Page) (a n : Nat) (w : World) (h1 : a < 8) (h2 : n ≤ 8 - a) :
    Calls Try.prog 19 #[.agg (pgC p), .int .i64 a, .int .i64 n] w fun e w' => ∃ v, e = .returned v ∧ Own w' w.heap.size 5 1 v n (((p.toList.drop a).take n).map byV) ∧ Below w.heap.size w w' := by
  have k1 : (n : Int) ≤ 8 - (a : Int) := by omega
  have k2 : (a : Int) + n ≤ 8 := by omega
  have k3 : (a : Int) ≤ (a : Int) + n := by omega
  have k4 : (0 : Int) ≤ (a : Int) + n := by omega
  have k5 : ¬ 8 = a := by omega
  have hl := get_len p a n h2
  go_enter Try.func19, Try.ntmps19
  go_wp2_with (at_builtin; go_must (refine wpList_app rfl _ _ 24 rfl w.heap.size 5 (.int .u8 0) 1 1 Try.underlying24 byte_info rfl (by decide) _ _ _ rfl (Own.nil _ _ _ _) (some ⟨w.heap.size, a, none⟩) (a + n - a) (8 - a) (((p.toList.drop a).take n).map byV) rfl (fun h => (by cases h)) (by omega) (by rw [List.length_map, hl]; omega) ?rd (by_one _) (by unfold maxLen; omega) (by omega) ?bb ?k))
  case rd => exact pg_rd (Blk.new w (pgC p) _) a n
  case bb => exact le_alloc _ _
  intro v w1 hown hgr
  go_wp2
  go_ret
  exact ⟨v, rfl, by simpa using hown, ((Below.refl _ _).alloc (Nat.le_refl _) _).grown hgr (by simp) (fun k hk => by cases hk)⟩

set_option maxHeartbeats 400000 in
theorem get_out (p : Page) (a n : Int) (w : World) (h : a < 0 ∨ n < 0 ∨ 8 < a ∨ 8 - a < n) :
    Calls Try.prog 19 #[.agg (pgC p), .int .i64 a, .int .i64 n] w fun e w' => ∃ v, e = .returned v ∧ Own w' w.heap.size 5 1 v 0 [] ∧ Below w.heap.size w w' := by
  go_enter Try.func19, Try.ntmps19
  go_wp2
  all_goals
    go_ret
    exact ⟨_, rfl, Own.nil _ _ _ _, (Below.refl _ _).alloc (Nat.le_refl _) _⟩

set_option maxHeartbeats 400000 in
set_option maxRecDepth 100000 in
theorem get_end (p : Page) (w : World) :
    Calls Try.prog 19 #[.agg (pgC p), .int .i64 ((8 : Nat) : Int), .int .i64 ((0 : Nat) : Int)] w fun e w' => ∃ v, e = .returned v ∧ Own w' w.heap.size 5 1 v 0 (((p.toList.drop 8).take 0).map byV) ∧ Below w.heap.size w w' := by
  go_enter Try.func19, Try.ntmps19
  go_wp2_with (at_builtin; go_must (refine wpList_app rfl _ _ 24 rfl w.heap.size 5 (.int .u8 0) 1 1 Try.underlying24 byte_info rfl (by decide) _ _ _ rfl (Own.nil _ _ _ _) (some ⟨w.heap.size, 0, none⟩) 0 0 [] rfl (fun h => (by cases h)) (Nat.le_refl _) rfl RdV.nil (fun _ h => (by cases h)) (by unfold maxLen; omega) (by omega) ?bb ?k))
  case bb => exact le_alloc _ _
  intro v w1 hown hgr
  go_wp2
  go_ret
  exact ⟨v, rfl, by simpa using hown, ((Below.refl _ _).alloc (Nat.le_refl _) _).grown hgr (by simp) (fun k hk => by cases hk)⟩

theorem take_snoc {α : Type} (l : List α) (k : Nat) (h : k < l.length) : l.take (k + 1) = l.take k ++ [l[k]] := by
  rw [List.take_succ_eq_append_getElem h]
theorem pg_snoc (p : Page) (a k : Nat) (h : a + k < 8) : (((p.toList.drop a).take (k + 1)).map byV) = ((p.toList.drop a).take k).map byV ++ [byV p[a + k]] := by
  rw [take_snoc _ k (by simp; omega)]
  simp

set_option maxHeartbeats 400000 in
set_option maxRecDepth 100000 in
theorem rget_in (p : Page) (a n : Nat) (w : World) (h1 : a ≤ 8) (h2 : n ≤ 8 - a) :
    Calls Try.prog 20 #[.agg (pgC p), .int .i64 a, .int .i64 n] w fun e w' => ∃ v, e = .returned v ∧ Own w' w.heap.size 5 1 v n (((p.toList.drop a).take n).map byV) ∧ Below w.heap.size w w' := by
  have k1 : (n : Int) ≤ 8 - (a : Int) := by omega
  go_enter Try.func20, Try.ntmps20
  go_wp2
  go_loopw [7, 8] (fun v i wr => ∃ k : Nat, k ≤ n ∧ i = .int .i64 k ∧ Own wr (w.heap.size + 1) 5 1 v k (((p.toList.drop a).take k).map byV) ∧ Blk wr w.heap.size (pgC p) 23 ∧ Below w.heap.size w wr) (fun _ i _ => n - (intOf i).toNat)
  case atStart => exact ⟨0, Nat.zero_le _, rfl, by simpa using Own.nil _ _ _ _, Blk.new _ _ _, (Below.refl _ _).alloc (Nat.le_refl _) _⟩
  case round =>
    obtain ⟨k, hk, rfl, hown, hblk, hbel⟩ := hrel
    by_cases hlt : k < n
    · have hc := hblk.cell
      have hg := pgC_get p (a + k) (by omega)
      have k2 : (a : Int) + k < 8 := by omega
      have k3 : (0 : Int) ≤ (a : Int) + k := by omega
      have hsz := hblk.lt
      go_wp2_with (at_builtin; go_must (refine wpList_app rfl _ _ 24 rfl (w.heap.size + 1) 5 (.int .u8 0) 1 1 Try.underlying24 byte_info rfl (by decide) _ _ _ rfl (hown.alloc _) (some ⟨wr.heap.size, 0, none⟩) 1 1 _ rfl (fun h => (by cases h)) (Nat.le_refl _) rfl (RdV.one _ _ _) (one_int _ _) (by unfold maxLen; omega) (by omega) ?bb ?k))
      case bb => exact le_alloc' (by omega) _
      intro v' w1 hown' hgr
      go_wp2
      go_roundw
      case rel => exact ⟨k + 1, by omega, by go_num, by rw [pg_snoc p a k (by omega)]; simpa [byV] using hown', (hblk.alloc _).app (hown.alloc _) hgr (by omega), (hbel.alloc (by omega) _).grown hgr (by simp; omega) (fun g hg => by have := hown.ge g hg; omega)⟩
      case measure => simp [intOf]; omega
    · obtain rfl : k = n := by omega
      go_wp2
      go_ret
      exact ⟨_, rfl, hown.mono (by omega), hbel⟩

set_option maxHeartbeats 400000 in
theorem rget_out (p : Page) (a n : Int) (w : World) (h : a < 0 ∨ n < 0 ∨ 8 < a ∨ 8 - a < n) :
    Calls Try.prog 20 #[.agg (pgC p), .int .i64 a, .int .i64 n] w fun e w' => ∃ v, e = .returned v ∧ Own w' w.heap.size 5 1 v 0 [] ∧ Below w.heap.size w w' := by
  go_enter Try.func20, Try.ntmps20
  go_wp2
  all_goals
    go_ret
    exact ⟨_, rfl, Own.nil _ _ _ _, (Below.refl _ _).alloc (Nat.le_refl _) _⟩

/-- What Get gives, of either text. -/
def getL (p : Page) (a n : Int) : List UInt8 := if a < 0 ∨ n < 0 ∨ 8 < a ∨ 8 - a < n then [] else (p.toList.drop a.toNat).take n.toNat
theorem get_any (p : Page) (a n : Int) (w : World) :
    Calls Try.prog 19 #[.agg (pgC p), .int .i64 a, .int .i64 n] w fun e w' => ∃ v, e = .returned v ∧ Own w' w.heap.size 5 1 v (getL p a n).length ((getL p a n).map byV) ∧ Below w.heap.size w w' := by
  by_cases h : a < 0 ∨ n < 0 ∨ 8 < a ∨ 8 - a < n
  · have e : getL p a n = [] := by unfold getL; rw [if_pos h]
    rw [e]
    exact get_out p a n w h
  · have e : getL p a n = (p.toList.drop a.toNat).take n.toNat := by unfold getL; rw [if_neg h]
    rw [e]
    obtain ⟨x, rfl⟩ := Int.eq_ofNat_of_zero_le (show 0 ≤ a by omega)
    obtain ⟨z, rfl⟩ := Int.eq_ofNat_of_zero_le (show 0 ≤ n by omega)
    simp only [Int.toNat_natCast, get_len p x z (by omega)]
    by_cases h8 : x < 8
    · exact get_in p x z w h8 (by omega)
    · obtain rfl : x = 8 := by omega
      obtain rfl : z = 0 := by omega
      exact get_end p w
theorem rget_any (p : Page) (a n : Int) (w : World) :
    Calls Try.prog 20 #[.agg (pgC p), .int .i64 a, .int .i64 n] w fun e w' => ∃ v, e = .returned v ∧ Own w' w.heap.size 5 1 v (getL p a n).length ((getL p a n).map byV) ∧ Below w.heap.size w w' := by
  by_cases h : a < 0 ∨ n < 0 ∨ 8 < a ∨ 8 - a < n
  · have e : getL p a n = [] := by unfold getL; rw [if_pos h]
    rw [e]
    exact rget_out p a n w h
  · have e : getL p a n = (p.toList.drop a.toNat).take n.toNat := by unfold getL; rw [if_neg h]
    rw [e]
    obtain ⟨x, rfl⟩ := Int.eq_ofNat_of_zero_le (show 0 ≤ a by omega)
    obtain ⟨z, rfl⟩ := Int.eq_ofNat_of_zero_le (show 0 ≤ n by omega)
    simp only [Int.toNat_natCast, get_len p x z (by omega)]
    exact rget_in p x z w (by omega) (by omega)

def countS (n : Int) : Int := if n ≤ 0 then 0 else (n - 1) / 8 + 1
theorem count_any (n : Int) (w : World) (h : n ≤ 9223372036854775807) :
    Calls Try.prog 23 #[.int .i64 n] w fun e w' => e = .returned (.int .i64 (countS n)) ∧ w = w' := by
  by_cases h0 : n ≤ 0
  · go_enter Try.func23, Try.ntmps23
    go_wp2
    go_ret
    exact ⟨by simp [countS, h0], rfl⟩
  · go_enter Try.func23, Try.ntmps23
    go_wp2
    go_ret
    exact ⟨ret_int (by unfold countS; rw [if_neg (by omega)]), rfl⟩
theorem rcount_any (n : Int) (w : World) (h : n ≤ 9223372036854775807) :
    Calls Try.prog 24 #[.int .i64 n] w fun e w' => e = .returned (.int .i64 (countS n)) ∧ w = w' := by
  by_cases h0 : n ≤ 0
  · go_enter Try.func24, Try.ntmps24
    go_wp2
    go_ret
    exact ⟨by simp [countS, h0], rfl⟩
  · go_enter Try.func24, Try.ntmps24
    go_wp2
    all_goals
      go_ret
      exact ⟨ret_int (by unfold countS; rw [if_neg (by omega)]; omega), rfl⟩

def withinS (a n : Int) : Bool := decide (0 ≤ a) && decide (0 ≤ n) && decide (n ≤ 8) && decide (a % 8 ≤ 8 - n)
theorem within_any (a n : Int) (w : World) :
    Calls Try.prog 18 #[.int .i64 a, .int .i64 n] w fun e w' => e = .returned (.bool (withinS a n)) ∧ w = w' := by
  go_enter Try.func18, Try.ntmps18
  go_wp2
  all_goals
    go_ret
    refine ⟨?_, rfl⟩
    congr 2
    unfold withinS
    first
      | (rw [decide_eq_true (show 0 ≤ a by assumption), decide_eq_true (show 0 ≤ n by assumption), decide_eq_true (show n ≤ 8 by assumption)]; rfl)
      | (rw [decide_eq_true (show 0 ≤ a by assumption), decide_eq_true (show 0 ≤ n by assumption), decide_eq_false (show ¬ n ≤ 8 by omega)]; rfl)
      | (rw [decide_eq_true (show 0 ≤ a by assumption), decide_eq_false (show ¬ 0 ≤ n by omega)]; rfl)
      | (rw [decide_eq_false (show ¬ 0 ≤ a by omega)]; rfl)

theorem byte_size : (Try.prog.info? 5).map (·.size) = some 1 := by kernel_rfl
set_option maxHeartbeats 400000 in
set_option maxRecDepth 100000 in
theorem set_in (p : Page) (a : Nat) (ab : Option Addr) (b : List UInt8) (c : Nat) (w : World) (h1 : a < 8) (hb : RdV w ab (b.map byV)) :
    Calls Try.prog 21 #[.agg (pgC p), .int .i64 a, .slice ab b.length c] w fun e w' => e = .returned (.agg (pgC (setPage p a b))) ∧ Below w.heap.size w w' := by
  have k1 : (a : Int) < 8 := by omega
  have k2 : (a : Int) ≤ 8 := by omega
  have k5 : ¬ 8 = a := by omega
  go_enter Try.func21, Try.ntmps21
  go_wp2_with (with_reducible refine wpList_cpy rfl (.tmp 14) (.tmp 15) _ _ rfl _ Try.underlying24 byte_size w.heap.size a (8 - a) (8 - a) ab b.length c rfl rfl (p.toList.map byV) 23 ?c1 (b.map byV) (by simp) ?c2 ?c3 (by_one _) ?c4)
  case c1 => rw [← pgC_arr]; exact (Blk.new w _ _).alloc _
  case c2 => exact hb.below (((Below.refl _ _).alloc (Nat.le_refl _) _).alloc (le_alloc _ _) _)
  case c3 => simp; omega
  intro w1 hb1 hg1
  rw [set_splice p a b h1] at hb1
  have hz : Blk w1 (w.heap.size + 1) #[.int .u8 0, .int .u8 0, .int .u8 0, .int .u8 0, .int .u8 0, .int .u8 0, .int .u8 0, .int .u8 0] 23 := by
    have := (Blk.new (w.alloc (.cells (pgC p) 23)) #[.int .u8 0, .int .u8 0, .int .u8 0, .int .u8 0, .int .u8 0, .int .u8 0, .int .u8 0, .int .u8 0] 23).grown hg1 (by simp)
    simpa using this
  have hc1 := hb1.cell
  have hc2 := hz.cell
  have hf2 := hz.free
  have hbel : Below w.heap.size w w1 := (((Below.refl _ _).alloc (Nat.le_refl _) _).alloc (le_alloc _ _) _).grown hg1 (by simp; omega) (fun k hk => by cases hk; exact Nat.le_refl _)
  clear hg1
  obtain ⟨e0, e1, e2, e3, e4, e5, e6, e7⟩ := pgC_all (setPage p a b)
  go_wp2
  simp [bodyPost, results, go_sem, Try.results21, hc2]
  refine ⟨rfl, ?_⟩
  repeat' (refine Below.setCell ?_ (by simp) _)
  exact hbel

set_option maxHeartbeats 400000 in
theorem set_out (p : Page) (a : Int) (ab : Option Addr) (b : List UInt8) (c : Nat) (w : World) (h : a < 0 ∨ 8 ≤ a) :
    Calls Try.prog 21 #[.agg (pgC p), .int .i64 a, .slice ab b.length c] w fun e w' => e = .returned (.agg (pgC (setPage p a b))) ∧ Below w.heap.size w w' := by
  have hs : setPage p a b = p := by unfold setPage; rw [if_neg (by omega)]
  rw [hs]
  clear hs
  obtain ⟨e0, e1, e2, e3, e4, e5, e6, e7⟩ := pgC_all p
  go_enter Try.func21, Try.ntmps21
  go_wp2
  all_goals
    simp [bodyPost, results, go_sem, Try.results21]
    exact ⟨rfl, ((Below.refl _ _).alloc (Nat.le_refl _) _).alloc (le_alloc _ _) _⟩

set_option maxHeartbeats 400000 in
set_option maxRecDepth 100000 in
theorem rset_in (p : Page) (a : Nat) (ab : Option Addr) (b : List UInt8) (c : Nat) (w : World) (h1 : a < 8) (hb : RdV w ab (b.map byV)) (hl : b.length ≤ 9223372036854775807) :
    Calls Try.prog 22 #[.agg (pgC p), .int .i64 a, .slice ab b.length c] w fun e w' => e = .returned (.agg (pgC (setPage p a b))) ∧ Below w.heap.size w w' := by
  have k1 : (a : Int) < 8 := by omega
  go_enter Try.func22, Try.ntmps22
  go_wp2
  go_loopw [7] (fun i wr => ∃ k : Nat, k ≤ b.length ∧ a + k ≤ 8 ∧ i = .int .i64 k ∧ Blk wr w.heap.size (pgC (setPage p a (b.take k))) 23 ∧ Blk wr (w.heap.size + 1) #[.int .u8 0, .int .u8 0, .int .u8 0, .int .u8 0, .int .u8 0, .int .u8 0, .int .u8 0, .int .u8 0] 23 ∧ Below w.heap.size w wr) (fun i _ => b.length - (intOf i).toNat)
  case atStart => exact ⟨0, Nat.zero_le _, by omega, rfl, by rw [List.take_zero, setPage_nil]; exact (Blk.new _ _ _).alloc _, by simpa using Blk.new (w.alloc (.cells (pgC p) 23)) _ _, ((Below.refl _ _).alloc (Nat.le_refl _) _).alloc (le_alloc _ _) _⟩
  case round =>
    obtain ⟨k, hk, hak, rfl, hb1, hz, hbel⟩ := hrel
    by_cases hlt : k < b.length ∧ a + k < 8
    · obtain ⟨hlt, h8⟩ := hlt
      obtain ⟨bb, boff, rfl, hcb⟩ := (hb.below hbel).at (by simp; omega)
      have hcell := hcb k (byV b[k]) (by simp [hlt])
      unfold byV at hcell
      clear hcb
      have hc1 := hb1.cell
      have hf1 := hb1.free
      have hg := pgC_get (setPage p a (b.take k)) (a + k) h8
      have k3 : (k : Int) < 8 - a := by omega
      have k4 : (0 : Int) ≤ (a : Int) + k := by omega
      have k6 : (a : Int) + k < 8 := by omega
      go_wp2
      go_roundw
      case rel =>
        refine ⟨k + 1, by omega, by omega, by go_num, ?_, hz.setCell_other _ _ (by simp), hbel.setCell (Nat.le_refl _) _⟩
        rw [← setPage_take p a b k h8 hlt, ← pgC_set _ _ h8]
        exact hb1.setCell _ _
      case measure => simp [intOf]; omega
    · have hstop : b.length ≤ k ∨ 8 ≤ a + k := by omega
      rw [setPage_stop p a b k hstop] at hb1
      have hc1 := hb1.cell
      have hc2 := hz.cell
      have hf2 := hz.free
      obtain ⟨e0, e1, e2, e3, e4, e5, e6, e7⟩ := pgC_all (setPage p a b)
      go_wp2
      all_goals
        simp [bodyPost, results, go_sem, Try.results22, hc2]
        refine ⟨rfl, ?_⟩
        repeat' (refine Below.setCell ?_ (by simp) _)
        exact hbel

set_option maxHeartbeats 400000 in
theorem rset_out (p : Page) (a : Int) (ab : Option Addr) (b : List UInt8) (c : Nat) (w : World) (h : a < 0 ∨ 8 ≤ a) :
    Calls Try.prog 22 #[.agg (pgC p), .int .i64 a, .slice ab b.length c] w fun e w' => e = .returned (.agg (pgC (setPage p a b))) ∧ Below w.heap.size w w' := by
  have hs : setPage p a b = p := by unfold setPage; rw [if_neg (by omega)]
  rw [hs]
  clear hs
  obtain ⟨e0, e1, e2, e3, e4, e5, e6, e7⟩ := pgC_all p
  go_enter Try.func22, Try.ntmps22
  go_wp2
  go_loopw [7] (fun i wr => i = .int .i64 0 ∧ wr = ((w.alloc (.cells (pgC p) 23)).alloc (.cells #[.int .u8 0, .int .u8 0, .int .u8 0, .int .u8 0, .int .u8 0, .int .u8 0, .int .u8 0, .int .u8 0] 23))) (fun _ _ => 0)
  case atStart => exact ⟨rfl, rfl⟩
  case round =>
    obtain ⟨rfl, rfl⟩ := hrel
    go_wp2
    all_goals
      simp [bodyPost, results, go_sem, Try.results22]
      exact ⟨rfl, ((Below.refl _ _).alloc (Nat.le_refl _) _).alloc (le_alloc _ _) _⟩

theorem set_any (p : Page) (a : Int) (ab : Option Addr) (b : List UInt8) (c : Nat) (w : World) (hb : RdV w ab (b.map byV)) :
    Calls Try.prog 21 #[.agg (pgC p), .int .i64 a, .slice ab b.length c] w fun e w' => e = .returned (.agg (pgC (setPage p a b))) ∧ Below w.heap.size w w' := by
  by_cases h : a < 0 ∨ 8 ≤ a
  · exact set_out p a ab b c w h
  · obtain ⟨x, rfl⟩ := Int.eq_ofNat_of_zero_le (show 0 ≤ a by omega)
    exact set_in p x ab b c w (by omega) hb
theorem rset_any (p : Page) (a : Int) (ab : Option Addr) (b : List UInt8) (c : Nat) (w : World) (hb : RdV w ab (b.map byV)) (hl : b.length ≤ 9223372036854775807) :
    Calls Try.prog 22 #[.agg (pgC p), .int .i64 a, .slice ab b.length c] w fun e w' => e = .returned (.agg (pgC (setPage p a b))) ∧ Below w.heap.size w w' := by
  by_cases h : a < 0 ∨ 8 ≤ a
  · exact rset_out p a ab b c w h
  · obtain ⟨x, rfl⟩ := Int.eq_ofNat_of_zero_le (show 0 ≤ a by omega)
    exact rset_in p x ab b c w (by omega) hb hl
end Go.Proofs.Ytohbfjbcfibhcaa
