/- What package frames' Own, Free, New, and slices.IndexFunc for Take do. -/
import Derived.Test.YtohbfjbcfibhcaaFrame2
namespace Go.Proofs.Ytohbfjbcfibhcaa
open Go.RowKit Pw
set_option linter.unusedSimpArgs false
set_option linter.unusedVariables false

theorem mem_size : (Try.prog.info? 64).map (·.size) = some 2 := by kernel_rfl
theorem mem_one (a : Option Addr) (n c : Nat) (k : Int) : (#[Value.slice a n c, .int .i64 k] : Array Value).all (·.oneCell') = true := by simp [Value.oneCell']
theorem mem_fit (a b : Option Addr) (n c m e : Nat) (k l : Int) : (#[Value.slice a n c, .int .i64 k] : Array Value).size = (#[Value.slice b m e, .int .i64 l] : Array Value).size := rfl
theorem mem_info (v u : Value) : (Try.prog.info? 64).map (·.size) = some (#[v, u] : Array Value).size := mem_size
def memR (B : Nat) (m : Mem) : Rel := ⟨fun v w => ∃ vb, v = .agg #[vb, .int .i64 m.hand] ∧ Own w B 72 13 vb m.fs.length (m.fs.flatMap frL), fun _ _ _ hb ⟨vb, h1, h2⟩ => ⟨vb, h1, h2.below hb⟩⟩
set_option maxHeartbeats 1000000 in
set_option maxRecDepth 100000 in
theorem mown_any (m : Mem) (a : Option Addr) (c : Nat) (w : World) (h : MRd w a c m) (h40 : m.fs.length * 40 ≤ 140737488355328) :
    Calls Try.prog 46 #[.agg #[.slice a m.fs.length c, .int .i64 m.hand]] w fun e w' => ∃ vb, e = .returned (.agg #[vb, .int .i64 m.hand]) ∧ Own w' w.heap.size 72 13 vb m.fs.length (m.fs.flatMap frL) ∧ Below w.heap.size w w' := by
  go_enter Try.func46, Try.ntmps46
  go_upto_region 1 with (fail)
  refine abs2 (fun W => Code.wp _ _ _ _ W) fun w0 hbel0 hblk hout hs0 => ?_
  clear hs0
  have h0 := h.below hbel0
  refine wp_grow 6 [isV (.pointer (some ⟨w.heap.size, 0, none⟩)), isV (.slice a m.fs.length c), (ownR w.heap.size 72 13 m.fs.length (m.fs.flatMap frL)), isV (.pointer (some ⟨w.heap.size, 1, none⟩)), isV (.int .i64 m.hand), (memR w.heap.size m)] (by kernel_rfl) (by kernel_rfl) (by kernel_rfl) (by decide) _ rfl (by kernel_rfl) (all_cons ?_ (all_cons ?_ (all_cons ?_ (all_cons ?_ (all_cons ?_ (all_cons ?_ (all_nil))))))) ?_
  · intro ρ y W hw hn hb hd
    have E1 : ρ (.tmp 1) = .pointer (some ⟨w.heap.size, 0, none⟩) := (hn (.tmp 1) rfl).trans rfl
    refine asked_val (.pointer (some ⟨w.heap.size, 0, none⟩)) (want_free rfl) (by simp [execOp, go_sem, E1]) rfl
  · intro ρ y W hw hn hb hd
    have E3 := hw 3 0 rfl
    have h0 : y 0 = .pointer (some ⟨w.heap.size, 0, none⟩) := hd 0 rfl
    refine asked_val (.slice a m.fs.length c) (want_free rfl) (by simp [execOp, go_sem, E3, h0, (hblk.ext hb).cell, Try.underlying62]) rfl
  · intro ρ y W hw hn hb hd
    have E4 := hw 4 1 rfl
    have h1 : y 1 = .slice a m.fs.length c := hd 1 rfl
    have EF : ∀ f, ρ (.func f) = .func (.func f) #[] #[] := fun f => hn (.func f) trivial
    refine asked_call _ _ (want_free rfl) (run_call rfl (EF _) Try.func76 (by kernel_rfl) (by kernel_rfl) (by simp only [List.map_toArray, List.map_cons, List.map_nil, E4, h1, EF]; rfl)) ?_
    refine (clone_frames m.fs a c W h0.le h0.nil (h0.below hb).rd h40).mono ?_
    rintro e w1 ⟨v, rfl, ho, hb1⟩
    exact ⟨v, rfl, hb1, ho.mono (Nat.le_trans hbel0.size hb.size)⟩
  · intro ρ y W hw hn hb hd
    have E1 : ρ (.tmp 1) = .pointer (some ⟨w.heap.size, 0, none⟩) := (hn (.tmp 1) rfl).trans rfl
    refine asked_val (.pointer (some ⟨w.heap.size, 1, none⟩)) (want_free rfl) (by simp [execOp, go_sem, E1]) rfl
  · intro ρ y W hw hn hb hd
    have E6 := hw 6 3 rfl
    have h3 : y 3 = .pointer (some ⟨w.heap.size, 1, none⟩) := hd 3 rfl
    refine asked_val (.int .i64 m.hand) (want_free rfl) (by simp [execOp, go_sem, E6, h3, (hblk.ext hb).cell, Try.underlying3]) rfl
  · intro ρ y W hw hn hb hd
    have E5 := hw 5 2 rfl
    have h2 := hd 2 rfl
    have E7 := hw 7 4 rfl
    have h4 : y 4 = .int .i64 m.hand := hd 4 rfl
    obtain ⟨x2, c2, e2, _⟩ := Own.rd h2
    refine asked_val (.agg #[y 2, .int .i64 m.hand]) (want_free rfl) (by simp [execOp, go_sem, E5, E7, h4, e2]) ?_
    exact ⟨_, rfl, h2⟩
  intro y WA hbWA hRWA
  have hy0 : y 0 = .pointer (some ⟨w.heap.size, 0, none⟩) := hRWA 0 (by decide)
  have hy1 : y 1 = .slice a m.fs.length c := hRWA 1 (by decide)
  have hy3 : y 3 = .pointer (some ⟨w.heap.size, 1, none⟩) := hRWA 3 (by decide)
  have hy4 : y 4 = .int .i64 m.hand := hRWA 4 (by decide)
  have hy2 : ((ownR w.heap.size 72 13 m.fs.length (m.fs.flatMap frL))).r (y 2) WA := hRWA 2 (by decide)
  have hy5 : ((memR w.heap.size m)).r (y 5) WA := hRWA 5 (by decide)
  clear hRWA
  simp only [lay, Nat.reduceAdd, Nat.reduceLT, decide_true, decide_false, if_true, Bool.false_eq_true, if_false, List.setIfInBounds_toArray, List.set_cons_zero, List.set_cons_succ, List.drop_succ_cons, List.drop_zero, List.drop_nil, hy0, hy1, hy3, hy4]
  clear hy0 hy1 hy3 hy4
  obtain ⟨vb, e5, ho⟩ := hy5
  rw [e5]
  clear hy2 e5
  have hbelA := below_next hbel0 hbWA
  obtain ⟨xb, cb', rfl, _⟩ := ho.rd
  refine wpList_stw rfl _ (.tmp 2) (.tmp 8) rfl (w.heap.size + 1) _ rfl rfl _ _ (hout.ext hbWA) rfl mem_size (by simp [Value.oneCell']) ?_
  intro w2 hq hgr
  have hbel2 : Below w.heap.size w w2 := hbelA.grown hgr hbelA.size (fun k hk => by cases hk; omega)
  have hc := hq.cell
  go_wp2
  simp [bodyPost, results, go_sem, Try.results46, hc]
  exact ⟨own_keep ho (hout.ext hbWA) (by decide) hgr, hbel2⟩

def freeN (l : List Fr) : Nat := (l.filter (fun f => decide (f.r = 0))).length
theorem freeN_take (l : List Fr) (k : Nat) (hk : k < l.length) : freeN (l.take (k + 1)) = if l[k].r = 0 then freeN (l.take k) + 1 else freeN (l.take k) := by
  unfold freeN
  rw [List.take_add_one, List.getElem?_eq_getElem hk, Option.toList, List.filter_append]
  by_cases h : l[k].r = 0 <;> simp [h]
theorem freeN_le (l : List Fr) : freeN l ≤ l.length := List.length_filter_le _ _
set_option maxHeartbeats 1000000 in
set_option maxRecDepth 100000 in
theorem mfree_any (m : Mem) (a : Option Addr) (c : Nat) (w : World) (h : MRd w a c m) :
    Calls Try.prog 48 #[.agg #[.slice a m.fs.length c, .int .i64 m.hand]] w fun e w' => e = .returned (.int .i64 (freeN m.fs)) ∧ Below w.heap.size w w' := by
  have hl := Nat.le_trans h.le h.mx
  unfold maxLen at hl
  go_enter Try.func48, Try.ntmps48
  go_upto_region 1 with (fail)
  refine abs1 (fun W => Code.wp _ _ _ _ W) fun W0 hb0 hx0 hs0 => ?_
  have hcx := hx0.cell
  clear hs0
  go_wp2
  clear hcx hx0
  go_loopw [3, 9] (fun s i wr => ∃ (k n : Nat), k ≤ m.fs.length ∧ i = .int .i64 k ∧ s = .int .i64 n ∧ n ≤ k ∧ Below w.heap.size w wr ∧ Hid (freeN (m.fs.take k) = n)) (fun _ i _ => m.fs.length - (intOf i).toNat)
  case atStart => exact ⟨0, 0, Nat.zero_le _, rfl, rfl, Nat.le_refl _, hb0, Lib.hid rfl⟩
  case round =>
    obtain ⟨k, n, hk, rfl, rfl, hn, hbel, hf⟩ := hrel
    by_cases hlt : k < m.fs.length
    · obtain ⟨b, off, rfl, hc⟩ := fr_at (h.below hbel).rd k hlt
      obtain ⟨c0, c1, c2, c3, c4, c5, c6, c7, c8, c9, ca, cb, cc⟩ := hc
      have ht := freeN_take m.fs k hlt
      rw [hf.out] at ht
      by_cases hr : m.fs[k].r = 0
      · rw [if_pos hr] at ht
        have ht' := Lib.hid ht
        have hrb : (m.fs[k].r == 0) = true := by simpa using hr
        clear ht hr
        go_wp2
        go_roundw
        case rel => exact ⟨k + 1, n + 1, by omega, by go_num, by go_num, by omega, hbel.alloc hbel.size _, ht'⟩
        case measure => simp [intOf]; omega
      · rw [if_neg hr] at ht
        have ht' := Lib.hid ht
        have hrb : (m.fs[k].r == 0) = false := by simpa using hr
        clear ht hr
        go_wp2
        go_roundw
        case rel => exact ⟨k + 1, n, by omega, by go_num, rfl, by omega, hbel.alloc hbel.size _, ht'⟩
        case measure => simp [intOf]; omega
    · have hfin : Hid (freeN m.fs = n) := by
        have := hf.out
        rw [List.take_of_length_le (by omega)] at this
        exact this
      go_wp2
      go_ret
      rw [hfin.out]
      exact ⟨rfl, hbel⟩
end Go.Proofs.Ytohbfjbcfibhcaa
