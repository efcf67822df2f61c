/- The laws of package pglaw1, walked: they return true. -/
import Derived.Test.YtohbfjbcfibhcaaPage
import Derived.Test.YtohbfjbcfibhcaaGrow
import Derived.BigQuiet
import Derived.Deep.QuietTactic
import Derived.Deep.RegionHeld3
import Derived.Deep.DeepCutAuto
namespace Go.Proofs.Ytohbfjbcfibhcaa
open Go.RowKit Pw
set_option linter.unusedSimpArgs false
set_option linter.unusedVariables false

theorem cut_lo (p : Page) (a : Int) (k : Nat) (hk : k < 8) (h : (k : Int) < a) : (pgC (cutPage p a))[k]? = some (.int .u8 p[k].toNat) := by
  rw [pgC_get _ k hk]
  simp only [cutPage, Vector.getElem_ofFn]
  rw [if_neg (by omega)]
theorem cut_hi (p : Page) (a : Int) (k : Nat) (hk : k < 8) (h : a ≤ (k : Int)) : (pgC (cutPage p a))[k]? = some (.int .u8 0) := by
  rw [pgC_get _ k hk]
  simp only [cutPage, Vector.getElem_ofFn]
  rw [if_pos h]
  rfl

theorem page_size : (Try.prog.info? 23).map (·.size) = some 8 := by kernel_rfl
set_option maxHeartbeats 4000000 in
set_option maxRecDepth 100000 in
theorem tells_any (p : Page) (a n : Int) (ab : Option Addr) (b : List UInt8) (c : Nat) (w : World) (hn : n ≤ 9223372036854775807) (hb : RdV w ab (b.map byV)) (hl : b.length ≤ 9223372036854775807) :
    Calls Try.prog 3 #[.agg (pgC p), .int .i64 a, .int .i64 n, .slice ab b.length c] w fun e w' => e = .returned (.bool true) ∧ Below w.heap.size w w' := by
  go_enter Try.func3, Try.ntmps3
  obtain ⟨e0, e1, e2, e3, e4, e5, e6, e7⟩ := pgC_all p
  have hpp : #[Value.int .u8 p[0].toNat, Value.int .u8 p[1].toNat, Value.int .u8 p[2].toNat, Value.int .u8 p[3].toNat, Value.int .u8 p[4].toNat, Value.int .u8 p[5].toNat, Value.int .u8 p[6].toNat, Value.int .u8 p[7].toNat] = pgC p := rfl
  go_wp2_with fail
  refine (cut_any p a _).mono ?_
  rintro e w1 ⟨rfl, hb1⟩
  have hp1 : Blk w1 w.heap.size (pgC p) 23 := (Blk.new w (pgC p) _).ext hb1
  have hbel1 := below_next ((Below.refl _ _).alloc (Nat.le_refl _) _) hb1
  have hsz1 := hp1.lt
  clear hb1
  go_wp2_with (with_reducible refine wpList_stw rfl _ (.tmp 9) (.tmp 14) rfl w1.heap.size (pgC (cutPage p a)) rfl rfl _ _ (Blk.new _ _ _) (by simp [pgC_size]) (by rw [pgC_size]; exact page_size) (pgC_one _) ?k)
  intro w2 hq2 hgr
  have hp2 : Blk w2 w.heap.size (pgC p) 23 := (hp1.alloc _).grown hgr (by simp; omega)
  have hbel2 : Below w.heap.size w w2 := (hbel1.alloc (by omega) _).grown hgr (le_alloc' (by omega) _) (fun k hk => by cases hk; omega)
  clear hgr hp1 hbel1
  go_wp2
  go_loopw [15, 10] (fun i _ wr => ∃ k : Nat, k ≤ 8 ∧ i = .int .i64 k ∧ Blk wr w.heap.size (pgC p) 23 ∧ Blk wr w1.heap.size (pgC (cutPage p a)) 23 ∧ Below w.heap.size w wr) (fun i _ _ => 8 - (intOf i).toNat)
  case atStart => exact ⟨0, by omega, rfl, hp2, hq2, hbel2⟩
  case round =>
    clear hp2 hq2 hbel2 w2
    obtain ⟨k, hk, rfl, hp2, hq2, hbel2⟩ := hrel
    by_cases hlt : k < 8
    · have hc1 := hp2.cell
      have hc2 := hq2.cell
      have hgp := pgC_get p k hlt
      by_cases hka : (k : Int) < a
      · have hgq := cut_lo p a k hlt hka
        have hd : decide ((k : Int) < a) = true := by simpa using hka
        have hd2 : decide (a ≤ (k : Int)) = false := by simpa using hka
        go_wp2
        go_quiet (fail)
        go_wp2
        go_roundw
        case rel => exact ⟨k + 1, by omega, by go_num, hp2.drewN _, hq2.drewN _, below_drewN hbel2 _⟩
        case measure => simp [intOf]; omega
      · have hgq := cut_hi p a k hlt (by omega)
        have hd : decide ((k : Int) < a) = false := by simpa using hka
        have hd2 : decide (a ≤ (k : Int)) = true := by simpa using hka
        go_wp2
        go_quiet (fail)
        go_wp2
        go_roundw
        case rel => exact ⟨k + 1, by omega, by go_num, hp2.drewN _, hq2.drewN _, below_drewN hbel2 _⟩
        case measure => simp [intOf]; omega
    · obtain rfl : k = 8 := by omega
      clear hk hlt hq2
      have key : ∀ x : Bool, withinS a n = x → Hid (withinS a n = x) := fun x h => h
      have hbs := hb.below hbel2
      have hn0 := hn
      clear hb hn
      by_cases h1 : 0 ≤ a ∧ 0 ≤ n ∧ n ≤ 8
      · obtain ⟨h1a, h1b, h1c⟩ := h1
        by_cases h2 : a % 8 ≤ 8 - n
        · have hwi := key true (by unfold withinS; simp [h1a, h1b, h1c, h2])
          clear key
          go_upto_region 11 with (fail)
          all_goals
            refine wp_grow 37 [isV (.int .i64 a), isV (.int .i64 n), isV (.bool (withinS a n)), isV (.bool (withinS a n)), isV (.bool true), isV (.bool true), isV (.agg (pgC p)), isV (.int .i64 a), isV (.int .i64 n), slR (getL p a n).length ((getL p a n).map byV), isV (.string ⟨(getL p a n).toArray⟩), isV (.agg (pgC p)), isV (.int .i64 a), isV (.int .i64 n), slR (getL p a n).length ((getL p a n).map byV), isV (.string ⟨(getL p a n).toArray⟩), isV (.bool true), isV (.bool true), isV (.bool true), isV (.agg (pgC p)), isV (.int .i64 a), isV (.slice ab b.length c), isV (.agg (pgC (setPage p a b))), isV (.agg (pgC p)), isV (.int .i64 a), isV (.slice ab b.length c), isV (.agg (pgC (setPage p a b))), isV (.bool true), isV (.bool true), isV (.bool true), isV (.int .i64 n), isV (.int .i64 (countS n)), isV (.int .i64 n), isV (.int .i64 (countS n)), isV (.bool true), isV (.bool true), isV (.bool true)] (by kernel_rfl) (by kernel_rfl) (by kernel_rfl) (by decide) _ rfl (by kernel_rfl) (all_cons ?_ (all_cons ?_ (all_cons ?_ (all_cons ?_ (all_cons ?_ (all_cons ?_ (all_cons ?_ (all_cons ?_ (all_cons ?_ (all_cons ?_ (all_cons ?_ (all_cons ?_ (all_cons ?_ (all_cons ?_ (all_cons ?_ (all_cons ?_ (all_cons ?_ (all_cons ?_ (all_cons ?_ (all_cons ?_ (all_cons ?_ (all_cons ?_ (all_cons ?_ (all_cons ?_ (all_cons ?_ (all_cons ?_ (all_cons ?_ (all_cons ?_ (all_cons ?_ (all_cons ?_ (all_cons ?_ (all_cons ?_ (all_cons ?_ (all_cons ?_ (all_cons ?_ (all_cons ?_ (all_cons ?_ (all_nil)))))))))))))))))))))))))))))))))))))) ?_
            · intro ρ y W hw hn hb hd
              have E1 : ρ (.tmp 1) = .int .i64 a := (hn (.tmp 1) rfl).trans rfl
              refine asked_val (.int .i64 a) (want_free rfl) (run_move (.inl rfl) E1) rfl
            · intro ρ y W hw hn hb hd
              have E2 : ρ (.tmp 2) = .int .i64 n := (hn (.tmp 2) rfl).trans rfl
              refine asked_val (.int .i64 n) (want_free rfl) (run_move (.inl rfl) E2) rfl
            · intro ρ y W hw hn hb hd
              have E60 := hw 60 0 rfl
              have h0 : y 0 = .int .i64 a := hd 0 rfl
              have E61 := hw 61 1 rfl
              have h1 : y 1 = .int .i64 n := hd 1 rfl
              have EF : ∀ f, ρ (.func f) = .func (.func f) #[] #[] := fun f => hn (.func f) trivial
              refine asked_call _ _ (want_free rfl) (run_call rfl (EF _) Try.func18 (by kernel_rfl) (by kernel_rfl) (by simp only [List.map_toArray, List.map_cons, List.map_nil, E60, h0, E61, h1, EF]; rfl)) ?_
              refine (within_any a n W).mono ?_
              rintro e w1 ⟨rfl, rfl⟩
              exact ⟨_, rfl, Below.refl _ _, rfl⟩
            · intro ρ y W hw hn hb hd
              have E11 : ρ (.tmp 11) = .bool (withinS a n) := (hn (.tmp 11) rfl).trans (by rw [hwi.out]; rfl)
              refine asked_val (.bool (withinS a n)) (want_free rfl) (run_move (.inl rfl) E11) rfl
            · intro ρ y W hw hn hb hd
              have E62 := hw 62 2 rfl
              have h2 : y 2 = .bool (withinS a n) := hd 2 rfl
              have E63 := hw 63 3 rfl
              have h3 : y 3 = .bool (withinS a n) := hd 3 rfl
              refine asked_val (.bool true) (want_free rfl) (run_bin rfl (E62.trans h2) (E63.trans h3) (by simp [go_sem])) rfl
            · intro ρ y W hw hn hb hd
              have E64 := hw 64 4 rfl
              have h4 : y 4 = .bool true := hd 4 rfl
              refine asked_val (.bool true) (want_free rfl) (run_move (.inl rfl) (E64.trans h4)) rfl
            · intro ρ y W hw hn hb hd
              have E4 : ρ (.tmp 4) = .pointer (some ⟨w.heap.size, 0, none⟩) := (hn (.tmp 4) rfl).trans rfl
              refine asked_val (.agg (pgC p)) (want_at 5 65 true true rfl rfl ((hw 65 5 rfl).trans (hd 5 rfl))) (run_load_blk rfl E4 (hp2.ext hb) Try.underlying23 rfl (by rw [pgC_size]; exact page_size)) rfl
            · intro ρ y W hw hn hb hd
              have E1 : ρ (.tmp 1) = .int .i64 a := (hn (.tmp 1) rfl).trans rfl
              refine asked_val (.int .i64 a) (want_at 5 65 true true rfl rfl ((hw 65 5 rfl).trans (hd 5 rfl))) (run_move (.inl rfl) E1) rfl
            · intro ρ y W hw hn hb hd
              have E2 : ρ (.tmp 2) = .int .i64 n := (hn (.tmp 2) rfl).trans rfl
              refine asked_val (.int .i64 n) (want_at 5 65 true true rfl rfl ((hw 65 5 rfl).trans (hd 5 rfl))) (run_move (.inl rfl) E2) rfl
            · intro ρ y W hw hn hb hd
              have E66 := hw 66 6 rfl
              have h6 : y 6 = .agg (pgC p) := hd 6 rfl
              have E67 := hw 67 7 rfl
              have h7 : y 7 = .int .i64 a := hd 7 rfl
              have E68 := hw 68 8 rfl
              have h8 : y 8 = .int .i64 n := hd 8 rfl
              have EF : ∀ f, ρ (.func f) = .func (.func f) #[] #[] := fun f => hn (.func f) trivial
              refine asked_call _ _ (want_at 5 65 true true rfl rfl ((hw 65 5 rfl).trans (hd 5 rfl))) (run_call rfl (EF _) Try.func19 (by kernel_rfl) (by kernel_rfl) (by simp only [List.map_toArray, List.map_cons, List.map_nil, E66, h6, E67, h7, E68, h8, EF]; rfl)) ?_
              refine (get_any p a n W).mono ?_
              rintro e w1 ⟨v, rfl, ho, hb1⟩
              exact ⟨v, rfl, hb1, ho.rd⟩
            · intro ρ y W hw hn hb hd
              have E69 := hw 69 9 rfl
              obtain ⟨a9, c9, h9, hle9, hmx9, hnil9, hrd9⟩ := hd 9 rfl
              refine asked_val (.string ⟨(getL p a n).toArray⟩) (want_at 5 65 true true rfl rfl ((hw 65 5 rfl).trans (hd 5 rfl))) (run_conv rfl (E69.trans h9) (conv_bytes Try.underlying24 Try.underlying5 c9 hrd9 9 Try.underlying9)) rfl
            · intro ρ y W hw hn hb hd
              have E4 : ρ (.tmp 4) = .pointer (some ⟨w.heap.size, 0, none⟩) := (hn (.tmp 4) rfl).trans rfl
              refine asked_val (.agg (pgC p)) (want_at 5 65 true true rfl rfl ((hw 65 5 rfl).trans (hd 5 rfl))) (run_load_blk rfl E4 (hp2.ext hb) Try.underlying23 rfl (by rw [pgC_size]; exact page_size)) rfl
            · intro ρ y W hw hn hb hd
              have E1 : ρ (.tmp 1) = .int .i64 a := (hn (.tmp 1) rfl).trans rfl
              refine asked_val (.int .i64 a) (want_at 5 65 true true rfl rfl ((hw 65 5 rfl).trans (hd 5 rfl))) (run_move (.inl rfl) E1) rfl
            · intro ρ y W hw hn hb hd
              have E2 : ρ (.tmp 2) = .int .i64 n := (hn (.tmp 2) rfl).trans rfl
              refine asked_val (.int .i64 n) (want_at 5 65 true true rfl rfl ((hw 65 5 rfl).trans (hd 5 rfl))) (run_move (.inl rfl) E2) rfl
            · intro ρ y W hw hn hb hd
              have E71 := hw 71 11 rfl
              have h11 : y 11 = .agg (pgC p) := hd 11 rfl
              have E72 := hw 72 12 rfl
              have h12 : y 12 = .int .i64 a := hd 12 rfl
              have E73 := hw 73 13 rfl
              have h13 : y 13 = .int .i64 n := hd 13 rfl
              have EF : ∀ f, ρ (.func f) = .func (.func f) #[] #[] := fun f => hn (.func f) trivial
              refine asked_call _ _ (want_at 5 65 true true rfl rfl ((hw 65 5 rfl).trans (hd 5 rfl))) (run_call rfl (EF _) Try.func20 (by kernel_rfl) (by kernel_rfl) (by simp only [List.map_toArray, List.map_cons, List.map_nil, E71, h11, E72, h12, E73, h13, EF]; rfl)) ?_
              refine (rget_any p a n W).mono ?_
              rintro e w1 ⟨v, rfl, ho, hb1⟩
              exact ⟨v, rfl, hb1, ho.rd⟩
            · intro ρ y W hw hn hb hd
              have E74 := hw 74 14 rfl
              obtain ⟨a14, c14, h14, hle14, hmx14, hnil14, hrd14⟩ := hd 14 rfl
              refine asked_val (.string ⟨(getL p a n).toArray⟩) (want_at 5 65 true true rfl rfl ((hw 65 5 rfl).trans (hd 5 rfl))) (run_conv rfl (E74.trans h14) (conv_bytes Try.underlying24 Try.underlying5 c14 hrd14 9 Try.underlying9)) rfl
            · intro ρ y W hw hn hb hd
              have E70 := hw 70 10 rfl
              have h10 : y 10 = .string ⟨(getL p a n).toArray⟩ := hd 10 rfl
              have E75 := hw 75 15 rfl
              have h15 : y 15 = .string ⟨(getL p a n).toArray⟩ := hd 15 rfl
              refine asked_val (.bool true) (want_at 5 65 true true rfl rfl ((hw 65 5 rfl).trans (hd 5 rfl))) (run_bin rfl (E70.trans h10) (E75.trans h15) (by simp [go_sem])) rfl
            · intro ρ y W hw hn hb hd
              have E65 := hw 65 5 rfl
              have h5 : y 5 = .bool true := hd 5 rfl
              have E76 := hw 76 16 rfl
              have h16 : y 16 = .bool true := hd 16 rfl
              have EC : ∀ v, ρ (.const v) = v := fun v => hn (.const v) trivial
              refine asked_val (.bool true) (want_free rfl) (run_pick rfl (E65.trans h5) (by simpa using (E76.trans h16))) rfl
            · intro ρ y W hw hn hb hd
              have E77 := hw 77 17 rfl
              have h17 : y 17 = .bool true := hd 17 rfl
              refine asked_val (.bool true) (want_free rfl) (run_move (.inl rfl) (E77.trans h17)) rfl
            · intro ρ y W hw hn hb hd
              have E4 : ρ (.tmp 4) = .pointer (some ⟨w.heap.size, 0, none⟩) := (hn (.tmp 4) rfl).trans rfl
              refine asked_val (.agg (pgC p)) (want_at 18 78 true true rfl rfl ((hw 78 18 rfl).trans (hd 18 rfl))) (run_load_blk rfl E4 (hp2.ext hb) Try.underlying23 rfl (by rw [pgC_size]; exact page_size)) rfl
            · intro ρ y W hw hn hb hd
              have E1 : ρ (.tmp 1) = .int .i64 a := (hn (.tmp 1) rfl).trans rfl
              refine asked_val (.int .i64 a) (want_at 18 78 true true rfl rfl ((hw 78 18 rfl).trans (hd 18 rfl))) (run_move (.inl rfl) E1) rfl
            · intro ρ y W hw hn hb hd
              have E3 : ρ (.tmp 3) = .slice ab b.length c := (hn (.tmp 3) rfl).trans rfl
              refine asked_val (.slice ab b.length c) (want_at 18 78 true true rfl rfl ((hw 78 18 rfl).trans (hd 18 rfl))) (run_move (.inl rfl) E3) rfl
            · intro ρ y W hw hn hb hd
              have E79 := hw 79 19 rfl
              have h19 : y 19 = .agg (pgC p) := hd 19 rfl
              have E80 := hw 80 20 rfl
              have h20 : y 20 = .int .i64 a := hd 20 rfl
              have E81 := hw 81 21 rfl
              have h21 : y 21 = .slice ab b.length c := hd 21 rfl
              have EF : ∀ f, ρ (.func f) = .func (.func f) #[] #[] := fun f => hn (.func f) trivial
              refine asked_call _ _ (want_at 18 78 true true rfl rfl ((hw 78 18 rfl).trans (hd 18 rfl))) (run_call rfl (EF _) Try.func21 (by kernel_rfl) (by kernel_rfl) (by simp only [List.map_toArray, List.map_cons, List.map_nil, E79, h19, E80, h20, E81, h21, EF]; rfl)) ?_
              refine (set_any p a ab b c W (hbs.below hb)).mono ?_
              rintro e w1 ⟨rfl, hb1⟩
              exact ⟨_, rfl, hb1, rfl⟩
            · intro ρ y W hw hn hb hd
              have E4 : ρ (.tmp 4) = .pointer (some ⟨w.heap.size, 0, none⟩) := (hn (.tmp 4) rfl).trans rfl
              refine asked_val (.agg (pgC p)) (want_at 18 78 true true rfl rfl ((hw 78 18 rfl).trans (hd 18 rfl))) (run_load_blk rfl E4 (hp2.ext hb) Try.underlying23 rfl (by rw [pgC_size]; exact page_size)) rfl
            · intro ρ y W hw hn hb hd
              have E1 : ρ (.tmp 1) = .int .i64 a := (hn (.tmp 1) rfl).trans rfl
              refine asked_val (.int .i64 a) (want_at 18 78 true true rfl rfl ((hw 78 18 rfl).trans (hd 18 rfl))) (run_move (.inl rfl) E1) rfl
            · intro ρ y W hw hn hb hd
              have E3 : ρ (.tmp 3) = .slice ab b.length c := (hn (.tmp 3) rfl).trans rfl
              refine asked_val (.slice ab b.length c) (want_at 18 78 true true rfl rfl ((hw 78 18 rfl).trans (hd 18 rfl))) (run_move (.inl rfl) E3) rfl
            · intro ρ y W hw hn hb hd
              have E83 := hw 83 23 rfl
              have h23 : y 23 = .agg (pgC p) := hd 23 rfl
              have E84 := hw 84 24 rfl
              have h24 : y 24 = .int .i64 a := hd 24 rfl
              have E85 := hw 85 25 rfl
              have h25 : y 25 = .slice ab b.length c := hd 25 rfl
              have EF : ∀ f, ρ (.func f) = .func (.func f) #[] #[] := fun f => hn (.func f) trivial
              refine asked_call _ _ (want_at 18 78 true true rfl rfl ((hw 78 18 rfl).trans (hd 18 rfl))) (run_call rfl (EF _) Try.func22 (by kernel_rfl) (by kernel_rfl) (by simp only [List.map_toArray, List.map_cons, List.map_nil, E83, h23, E84, h24, E85, h25, EF]; rfl)) ?_
              refine (rset_any p a ab b c W (hbs.below hb) hl).mono ?_
              rintro e w1 ⟨rfl, hb1⟩
              exact ⟨_, rfl, hb1, rfl⟩
            · intro ρ y W hw hn hb hd
              have E82 := hw 82 22 rfl
              have h22 : y 22 = .agg (pgC (setPage p a b)) := hd 22 rfl
              have E86 := hw 86 26 rfl
              have h26 : y 26 = .agg (pgC (setPage p a b)) := hd 26 rfl
              have heq : (Op.equalIn 10000 23 (.agg (pgC (setPage p a b))) (.agg (pgC (setPage p a b)))).run Try.prog W = .ok (setPage p a b == setPage p a b) W := run_eq_page W 9998 _ _ Try.underlying23 Try.underlying5 byte_size _ _
              refine asked_val (.bool true) (want_at 18 78 true true rfl rfl ((hw 78 18 rfl).trans (hd 18 rfl))) (run_bin rfl (E82.trans h22) (E86.trans h26) (by simp [go_sem, heq])) rfl
            · intro ρ y W hw hn hb hd
              have E78 := hw 78 18 rfl
              have h18 : y 18 = .bool true := hd 18 rfl
              have E87 := hw 87 27 rfl
              have h27 : y 27 = .bool true := hd 27 rfl
              have EC : ∀ v, ρ (.const v) = v := fun v => hn (.const v) trivial
              refine asked_val (.bool true) (want_free rfl) (run_pick rfl (E78.trans h18) (by simpa using (E87.trans h27))) rfl
            · intro ρ y W hw hn hb hd
              have E88 := hw 88 28 rfl
              have h28 : y 28 = .bool true := hd 28 rfl
              refine asked_val (.bool true) (want_free rfl) (run_move (.inl rfl) (E88.trans h28)) rfl
            · intro ρ y W hw hn hb hd
              have E2 : ρ (.tmp 2) = .int .i64 n := (hn (.tmp 2) rfl).trans rfl
              refine asked_val (.int .i64 n) (want_at 29 89 true true rfl rfl ((hw 89 29 rfl).trans (hd 29 rfl))) (run_move (.inl rfl) E2) rfl
            · intro ρ y W hw hn hb hd
              have E90 := hw 90 30 rfl
              have h30 : y 30 = .int .i64 n := hd 30 rfl
              have EF : ∀ f, ρ (.func f) = .func (.func f) #[] #[] := fun f => hn (.func f) trivial
              refine asked_call _ _ (want_at 29 89 true true rfl rfl ((hw 89 29 rfl).trans (hd 29 rfl))) (run_call rfl (EF _) Try.func23 (by kernel_rfl) (by kernel_rfl) (by simp only [List.map_toArray, List.map_cons, List.map_nil, E90, h30, EF]; rfl)) ?_
              refine (count_any n W hn0).mono ?_
              rintro e w1 ⟨rfl, rfl⟩
              exact ⟨_, rfl, Below.refl _ _, rfl⟩
            · intro ρ y W hw hn hb hd
              have E2 : ρ (.tmp 2) = .int .i64 n := (hn (.tmp 2) rfl).trans rfl
              refine asked_val (.int .i64 n) (want_at 29 89 true true rfl rfl ((hw 89 29 rfl).trans (hd 29 rfl))) (run_move (.inl rfl) E2) rfl
            · intro ρ y W hw hn hb hd
              have E92 := hw 92 32 rfl
              have h32 : y 32 = .int .i64 n := hd 32 rfl
              have EF : ∀ f, ρ (.func f) = .func (.func f) #[] #[] := fun f => hn (.func f) trivial
              refine asked_call _ _ (want_at 29 89 true true rfl rfl ((hw 89 29 rfl).trans (hd 29 rfl))) (run_call rfl (EF _) Try.func24 (by kernel_rfl) (by kernel_rfl) (by simp only [List.map_toArray, List.map_cons, List.map_nil, E92, h32, EF]; rfl)) ?_
              refine (rcount_any n W hn0).mono ?_
              rintro e w1 ⟨rfl, rfl⟩
              exact ⟨_, rfl, Below.refl _ _, rfl⟩
            · intro ρ y W hw hn hb hd
              have E91 := hw 91 31 rfl
              have h31 : y 31 = .int .i64 (countS n) := hd 31 rfl
              have E93 := hw 93 33 rfl
              have h33 : y 33 = .int .i64 (countS n) := hd 33 rfl
              refine asked_val (.bool true) (want_at 29 89 true true rfl rfl ((hw 89 29 rfl).trans (hd 29 rfl))) (run_bin rfl (E91.trans h31) (E93.trans h33) (by simp [go_sem])) rfl
            · intro ρ y W hw hn hb hd
              have E89 := hw 89 29 rfl
              have h29 : y 29 = .bool true := hd 29 rfl
              have E94 := hw 94 34 rfl
              have h34 : y 34 = .bool true := hd 34 rfl
              have EC : ∀ v, ρ (.const v) = v := fun v => hn (.const v) trivial
              refine asked_val (.bool true) (want_free rfl) (run_pick rfl (E89.trans h29) (by simpa using (E94.trans h34))) rfl
            · intro ρ y W hw hn hb hd
              have E95 := hw 95 35 rfl
              have h35 : y 35 = .bool true := hd 35 rfl
              refine asked_val (.bool true) (want_free rfl) (run_move (.inr rfl) (E95.trans h35)) rfl
            intro y WA hbWA hRWA
            have hy0 : y 0 = .int .i64 a := hRWA 0 (by decide)
            have hy1 : y 1 = .int .i64 n := hRWA 1 (by decide)
            have hy2 : y 2 = .bool (withinS a n) := hRWA 2 (by decide)
            have hy3 : y 3 = .bool (withinS a n) := hRWA 3 (by decide)
            have hy4 : y 4 = .bool true := hRWA 4 (by decide)
            have hy5 : y 5 = .bool true := hRWA 5 (by decide)
            have hy6 : y 6 = .agg (pgC p) := hRWA 6 (by decide)
            have hy7 : y 7 = .int .i64 a := hRWA 7 (by decide)
            have hy8 : y 8 = .int .i64 n := hRWA 8 (by decide)
            have hy10 : y 10 = .string ⟨(getL p a n).toArray⟩ := hRWA 10 (by decide)
            have hy11 : y 11 = .agg (pgC p) := hRWA 11 (by decide)
            have hy12 : y 12 = .int .i64 a := hRWA 12 (by decide)
            have hy13 : y 13 = .int .i64 n := hRWA 13 (by decide)
            have hy15 : y 15 = .string ⟨(getL p a n).toArray⟩ := hRWA 15 (by decide)
            have hy16 : y 16 = .bool true := hRWA 16 (by decide)
            have hy17 : y 17 = .bool true := hRWA 17 (by decide)
            have hy18 : y 18 = .bool true := hRWA 18 (by decide)
            have hy19 : y 19 = .agg (pgC p) := hRWA 19 (by decide)
            have hy20 : y 20 = .int .i64 a := hRWA 20 (by decide)
            have hy21 : y 21 = .slice ab b.length c := hRWA 21 (by decide)
            have hy22 : y 22 = .agg (pgC (setPage p a b)) := hRWA 22 (by decide)
            have hy23 : y 23 = .agg (pgC p) := hRWA 23 (by decide)
            have hy24 : y 24 = .int .i64 a := hRWA 24 (by decide)
            have hy25 : y 25 = .slice ab b.length c := hRWA 25 (by decide)
            have hy26 : y 26 = .agg (pgC (setPage p a b)) := hRWA 26 (by decide)
            have hy27 : y 27 = .bool true := hRWA 27 (by decide)
            have hy28 : y 28 = .bool true := hRWA 28 (by decide)
            have hy29 : y 29 = .bool true := hRWA 29 (by decide)
            have hy30 : y 30 = .int .i64 n := hRWA 30 (by decide)
            have hy31 : y 31 = .int .i64 (countS n) := hRWA 31 (by decide)
            have hy32 : y 32 = .int .i64 n := hRWA 32 (by decide)
            have hy33 : y 33 = .int .i64 (countS n) := hRWA 33 (by decide)
            have hy34 : y 34 = .bool true := hRWA 34 (by decide)
            have hy35 : y 35 = .bool true := hRWA 35 (by decide)
            have hy36 : y 36 = .bool true := hRWA 36 (by decide)
            obtain ⟨ya9, yc9, hy9, yle9, ymx9, ynil9, yrd9⟩ := hRWA 9 (by decide)
            obtain ⟨ya14, yc14, hy14, yle14, ymx14, ynil14, yrd14⟩ := hRWA 14 (by decide)
            clear hRWA
            simp only [lay, Nat.reduceAdd, Nat.reduceLT, decide_true, decide_false, if_true, Bool.false_eq_true, if_false, List.setIfInBounds_toArray, List.set_cons_zero, List.set_cons_succ, List.drop_succ_cons, List.drop_zero, List.drop_nil, hy0, hy1, hy2, hy3, hy4, hy5, hy6, hy7, hy8, hy9, hy10, hy11, hy12, hy13, hy14, hy15, hy16, hy17, hy18, hy19, hy20, hy21, hy22, hy23, hy24, hy25, hy26, hy27, hy28, hy29, hy30, hy31, hy32, hy33, hy34, hy35, hy36]
            clear hy0 hy1 hy2 hy3 hy4 hy5 hy6 hy7 hy8 hy9 hy10 hy11 hy12 hy13 hy14 hy15 hy16 hy17 hy18 hy19 hy20 hy21 hy22 hy23 hy24 hy25 hy26 hy27 hy28 hy29 hy30 hy31 hy32 hy33 hy34 hy35 hy36
            go_wp2
            go_ret
            exact ⟨rfl, below_next hbel2 hbWA⟩
        · have hwi := key false (by unfold withinS; simp [h1a, h1b, h1c]; omega)
          clear key
          go_upto_region 11 with (fail)
          all_goals
            refine wp_grow 37 [isV (.int .i64 a), isV (.int .i64 n), isV (.bool (withinS a n)), isV (.bool (withinS a n)), isV (.bool true), isV (.bool true), isV (.agg (pgC p)), isV (.int .i64 a), isV (.int .i64 n), slR (getL p a n).length ((getL p a n).map byV), isV (.string ⟨(getL p a n).toArray⟩), isV (.agg (pgC p)), isV (.int .i64 a), isV (.int .i64 n), slR (getL p a n).length ((getL p a n).map byV), isV (.string ⟨(getL p a n).toArray⟩), isV (.bool true), isV (.bool true), isV (.bool true), isV (.agg (pgC p)), isV (.int .i64 a), isV (.slice ab b.length c), isV (.agg (pgC (setPage p a b))), isV (.agg (pgC p)), isV (.int .i64 a), isV (.slice ab b.length c), isV (.agg (pgC (setPage p a b))), isV (.bool true), isV (.bool true), isV (.bool true), isV (.int .i64 n), isV (.int .i64 (countS n)), isV (.int .i64 n), isV (.int .i64 (countS n)), isV (.bool true), isV (.bool true), isV (.bool true)] (by kernel_rfl) (by kernel_rfl) (by kernel_rfl) (by decide) _ rfl (by kernel_rfl) (all_cons ?_ (all_cons ?_ (all_cons ?_ (all_cons ?_ (all_cons ?_ (all_cons ?_ (all_cons ?_ (all_cons ?_ (all_cons ?_ (all_cons ?_ (all_cons ?_ (all_cons ?_ (all_cons ?_ (all_cons ?_ (all_cons ?_ (all_cons ?_ (all_cons ?_ (all_cons ?_ (all_cons ?_ (all_cons ?_ (all_cons ?_ (all_cons ?_ (all_cons ?_ (all_cons ?_ (all_cons ?_ (all_cons ?_ (all_cons ?_ (all_cons ?_ (all_cons ?_ (all_cons ?_ (all_cons ?_ (all_cons ?_ (all_cons ?_ (all_cons ?_ (all_cons ?_ (all_cons ?_ (all_cons ?_ (all_nil)))))))))))))))))))))))))))))))))))))) ?_
            · intro ρ y W hw hn hb hd
              have E1 : ρ (.tmp 1) = .int .i64 a := (hn (.tmp 1) rfl).trans rfl
              refine asked_val (.int .i64 a) (want_free rfl) (run_move (.inl rfl) E1) rfl
            · intro ρ y W hw hn hb hd
              have E2 : ρ (.tmp 2) = .int .i64 n := (hn (.tmp 2) rfl).trans rfl
              refine asked_val (.int .i64 n) (want_free rfl) (run_move (.inl rfl) E2) rfl
            · intro ρ y W hw hn hb hd
              have E60 := hw 60 0 rfl
              have h0 : y 0 = .int .i64 a := hd 0 rfl
              have E61 := hw 61 1 rfl
              have h1 : y 1 = .int .i64 n := hd 1 rfl
              have EF : ∀ f, ρ (.func f) = .func (.func f) #[] #[] := fun f => hn (.func f) trivial
              refine asked_call _ _ (want_free rfl) (run_call rfl (EF _) Try.func18 (by kernel_rfl) (by kernel_rfl) (by simp only [List.map_toArray, List.map_cons, List.map_nil, E60, h0, E61, h1, EF]; rfl)) ?_
              refine (within_any a n W).mono ?_
              rintro e w1 ⟨rfl, rfl⟩
              exact ⟨_, rfl, Below.refl _ _, rfl⟩
            · intro ρ y W hw hn hb hd
              have E11 : ρ (.tmp 11) = .bool (withinS a n) := (hn (.tmp 11) rfl).trans (by rw [hwi.out]; rfl)
              refine asked_val (.bool (withinS a n)) (want_free rfl) (run_move (.inl rfl) E11) rfl
            · intro ρ y W hw hn hb hd
              have E62 := hw 62 2 rfl
              have h2 : y 2 = .bool (withinS a n) := hd 2 rfl
              have E63 := hw 63 3 rfl
              have h3 : y 3 = .bool (withinS a n) := hd 3 rfl
              refine asked_val (.bool true) (want_free rfl) (run_bin rfl (E62.trans h2) (E63.trans h3) (by simp [go_sem])) rfl
            · intro ρ y W hw hn hb hd
              have E64 := hw 64 4 rfl
              have h4 : y 4 = .bool true := hd 4 rfl
              refine asked_val (.bool true) (want_free rfl) (run_move (.inl rfl) (E64.trans h4)) rfl
            · intro ρ y W hw hn hb hd
              have E4 : ρ (.tmp 4) = .pointer (some ⟨w.heap.size, 0, none⟩) := (hn (.tmp 4) rfl).trans rfl
              refine asked_val (.agg (pgC p)) (want_at 5 65 true true rfl rfl ((hw 65 5 rfl).trans (hd 5 rfl))) (run_load_blk rfl E4 (hp2.ext hb) Try.underlying23 rfl (by rw [pgC_size]; exact page_size)) rfl
            · intro ρ y W hw hn hb hd
              have E1 : ρ (.tmp 1) = .int .i64 a := (hn (.tmp 1) rfl).trans rfl
              refine asked_val (.int .i64 a) (want_at 5 65 true true rfl rfl ((hw 65 5 rfl).trans (hd 5 rfl))) (run_move (.inl rfl) E1) rfl
            · intro ρ y W hw hn hb hd
              have E2 : ρ (.tmp 2) = .int .i64 n := (hn (.tmp 2) rfl).trans rfl
              refine asked_val (.int .i64 n) (want_at 5 65 true true rfl rfl ((hw 65 5 rfl).trans (hd 5 rfl))) (run_move (.inl rfl) E2) rfl
            · intro ρ y W hw hn hb hd
              have E66 := hw 66 6 rfl
              have h6 : y 6 = .agg (pgC p) := hd 6 rfl
              have E67 := hw 67 7 rfl
              have h7 : y 7 = .int .i64 a := hd 7 rfl
              have E68 := hw 68 8 rfl
              have h8 : y 8 = .int .i64 n := hd 8 rfl
              have EF : ∀ f, ρ (.func f) = .func (.func f) #[] #[] := fun f => hn (.func f) trivial
              refine asked_call _ _ (want_at 5 65 true true rfl rfl ((hw 65 5 rfl).trans (hd 5 rfl))) (run_call rfl (EF _) Try.func19 (by kernel_rfl) (by kernel_rfl) (by simp only [List.map_toArray, List.map_cons, List.map_nil, E66, h6, E67, h7, E68, h8, EF]; rfl)) ?_
              refine (get_any p a n W).mono ?_
              rintro e w1 ⟨v, rfl, ho, hb1⟩
              exact ⟨v, rfl, hb1, ho.rd⟩
            · intro ρ y W hw hn hb hd
              have E69 := hw 69 9 rfl
              obtain ⟨a9, c9, h9, hle9, hmx9, hnil9, hrd9⟩ := hd 9 rfl
              refine asked_val (.string ⟨(getL p a n).toArray⟩) (want_at 5 65 true true rfl rfl ((hw 65 5 rfl).trans (hd 5 rfl))) (run_conv rfl (E69.trans h9) (conv_bytes Try.underlying24 Try.underlying5 c9 hrd9 9 Try.underlying9)) rfl
            · intro ρ y W hw hn hb hd
              have E4 : ρ (.tmp 4) = .pointer (some ⟨w.heap.size, 0, none⟩) := (hn (.tmp 4) rfl).trans rfl
              refine asked_val (.agg (pgC p)) (want_at 5 65 true true rfl rfl ((hw 65 5 rfl).trans (hd 5 rfl))) (run_load_blk rfl E4 (hp2.ext hb) Try.underlying23 rfl (by rw [pgC_size]; exact page_size)) rfl
            · intro ρ y W hw hn hb hd
              have E1 : ρ (.tmp 1) = .int .i64 a := (hn (.tmp 1) rfl).trans rfl
              refine asked_val (.int .i64 a) (want_at 5 65 true true rfl rfl ((hw 65 5 rfl).trans (hd 5 rfl))) (run_move (.inl rfl) E1) rfl
            · intro ρ y W hw hn hb hd
              have E2 : ρ (.tmp 2) = .int .i64 n := (hn (.tmp 2) rfl).trans rfl
              refine asked_val (.int .i64 n) (want_at 5 65 true true rfl rfl ((hw 65 5 rfl).trans (hd 5 rfl))) (run_move (.inl rfl) E2) rfl
            · intro ρ y W hw hn hb hd
              have E71 := hw 71 11 rfl
              have h11 : y 11 = .agg (pgC p) := hd 11 rfl
              have E72 := hw 72 12 rfl
              have h12 : y 12 = .int .i64 a := hd 12 rfl
              have E73 := hw 73 13 rfl
              have h13 : y 13 = .int .i64 n := hd 13 rfl
              have EF : ∀ f, ρ (.func f) = .func (.func f) #[] #[] := fun f => hn (.func f) trivial
              refine asked_call _ _ (want_at 5 65 true true rfl rfl ((hw 65 5 rfl).trans (hd 5 rfl))) (run_call rfl (EF _) Try.func20 (by kernel_rfl) (by kernel_rfl) (by simp only [List.map_toArray, List.map_cons, List.map_nil, E71, h11, E72, h12, E73, h13, EF]; rfl)) ?_
              refine (rget_any p a n W).mono ?_
              rintro e w1 ⟨v, rfl, ho, hb1⟩
              exact ⟨v, rfl, hb1, ho.rd⟩
            · intro ρ y W hw hn hb hd
              have E74 := hw 74 14 rfl
              obtain ⟨a14, c14, h14, hle14, hmx14, hnil14, hrd14⟩ := hd 14 rfl
              refine asked_val (.string ⟨(getL p a n).toArray⟩) (want_at 5 65 true true rfl rfl ((hw 65 5 rfl).trans (hd 5 rfl))) (run_conv rfl (E74.trans h14) (conv_bytes Try.underlying24 Try.underlying5 c14 hrd14 9 Try.underlying9)) rfl
            · intro ρ y W hw hn hb hd
              have E70 := hw 70 10 rfl
              have h10 : y 10 = .string ⟨(getL p a n).toArray⟩ := hd 10 rfl
              have E75 := hw 75 15 rfl
              have h15 : y 15 = .string ⟨(getL p a n).toArray⟩ := hd 15 rfl
              refine asked_val (.bool true) (want_at 5 65 true true rfl rfl ((hw 65 5 rfl).trans (hd 5 rfl))) (run_bin rfl (E70.trans h10) (E75.trans h15) (by simp [go_sem])) rfl
            · intro ρ y W hw hn hb hd
              have E65 := hw 65 5 rfl
              have h5 : y 5 = .bool true := hd 5 rfl
              have E76 := hw 76 16 rfl
              have h16 : y 16 = .bool true := hd 16 rfl
              have EC : ∀ v, ρ (.const v) = v := fun v => hn (.const v) trivial
              refine asked_val (.bool true) (want_free rfl) (run_pick rfl (E65.trans h5) (by simpa using (E76.trans h16))) rfl
            · intro ρ y W hw hn hb hd
              have E77 := hw 77 17 rfl
              have h17 : y 17 = .bool true := hd 17 rfl
              refine asked_val (.bool true) (want_free rfl) (run_move (.inl rfl) (E77.trans h17)) rfl
            · intro ρ y W hw hn hb hd
              have E4 : ρ (.tmp 4) = .pointer (some ⟨w.heap.size, 0, none⟩) := (hn (.tmp 4) rfl).trans rfl
              refine asked_val (.agg (pgC p)) (want_at 18 78 true true rfl rfl ((hw 78 18 rfl).trans (hd 18 rfl))) (run_load_blk rfl E4 (hp2.ext hb) Try.underlying23 rfl (by rw [pgC_size]; exact page_size)) rfl
            · intro ρ y W hw hn hb hd
              have E1 : ρ (.tmp 1) = .int .i64 a := (hn (.tmp 1) rfl).trans rfl
              refine asked_val (.int .i64 a) (want_at 18 78 true true rfl rfl ((hw 78 18 rfl).trans (hd 18 rfl))) (run_move (.inl rfl) E1) rfl
            · intro ρ y W hw hn hb hd
              have E3 : ρ (.tmp 3) = .slice ab b.length c := (hn (.tmp 3) rfl).trans rfl
              refine asked_val (.slice ab b.length c) (want_at 18 78 true true rfl rfl ((hw 78 18 rfl).trans (hd 18 rfl))) (run_move (.inl rfl) E3) rfl
            · intro ρ y W hw hn hb hd
              have E79 := hw 79 19 rfl
              have h19 : y 19 = .agg (pgC p) := hd 19 rfl
              have E80 := hw 80 20 rfl
              have h20 : y 20 = .int .i64 a := hd 20 rfl
              have E81 := hw 81 21 rfl
              have h21 : y 21 = .slice ab b.length c := hd 21 rfl
              have EF : ∀ f, ρ (.func f) = .func (.func f) #[] #[] := fun f => hn (.func f) trivial
              refine asked_call _ _ (want_at 18 78 true true rfl rfl ((hw 78 18 rfl).trans (hd 18 rfl))) (run_call rfl (EF _) Try.func21 (by kernel_rfl) (by kernel_rfl) (by simp only [List.map_toArray, List.map_cons, List.map_nil, E79, h19, E80, h20, E81, h21, EF]; rfl)) ?_
              refine (set_any p a ab b c W (hbs.below hb)).mono ?_
              rintro e w1 ⟨rfl, hb1⟩
              exact ⟨_, rfl, hb1, rfl⟩
            · intro ρ y W hw hn hb hd
              have E4 : ρ (.tmp 4) = .pointer (some ⟨w.heap.size, 0, none⟩) := (hn (.tmp 4) rfl).trans rfl
              refine asked_val (.agg (pgC p)) (want_at 18 78 true true rfl rfl ((hw 78 18 rfl).trans (hd 18 rfl))) (run_load_blk rfl E4 (hp2.ext hb) Try.underlying23 rfl (by rw [pgC_size]; exact page_size)) rfl
            · intro ρ y W hw hn hb hd
              have E1 : ρ (.tmp 1) = .int .i64 a := (hn (.tmp 1) rfl).trans rfl
              refine asked_val (.int .i64 a) (want_at 18 78 true true rfl rfl ((hw 78 18 rfl).trans (hd 18 rfl))) (run_move (.inl rfl) E1) rfl
            · intro ρ y W hw hn hb hd
              have E3 : ρ (.tmp 3) = .slice ab b.length c := (hn (.tmp 3) rfl).trans rfl
              refine asked_val (.slice ab b.length c) (want_at 18 78 true true rfl rfl ((hw 78 18 rfl).trans (hd 18 rfl))) (run_move (.inl rfl) E3) rfl
            · intro ρ y W hw hn hb hd
              have E83 := hw 83 23 rfl
              have h23 : y 23 = .agg (pgC p) := hd 23 rfl
              have E84 := hw 84 24 rfl
              have h24 : y 24 = .int .i64 a := hd 24 rfl
              have E85 := hw 85 25 rfl
              have h25 : y 25 = .slice ab b.length c := hd 25 rfl
              have EF : ∀ f, ρ (.func f) = .func (.func f) #[] #[] := fun f => hn (.func f) trivial
              refine asked_call _ _ (want_at 18 78 true true rfl rfl ((hw 78 18 rfl).trans (hd 18 rfl))) (run_call rfl (EF _) Try.func22 (by kernel_rfl) (by kernel_rfl) (by simp only [List.map_toArray, List.map_cons, List.map_nil, E83, h23, E84, h24, E85, h25, EF]; rfl)) ?_
              refine (rset_any p a ab b c W (hbs.below hb) hl).mono ?_
              rintro e w1 ⟨rfl, hb1⟩
              exact ⟨_, rfl, hb1, rfl⟩
            · intro ρ y W hw hn hb hd
              have E82 := hw 82 22 rfl
              have h22 : y 22 = .agg (pgC (setPage p a b)) := hd 22 rfl
              have E86 := hw 86 26 rfl
              have h26 : y 26 = .agg (pgC (setPage p a b)) := hd 26 rfl
              have heq : (Op.equalIn 10000 23 (.agg (pgC (setPage p a b))) (.agg (pgC (setPage p a b)))).run Try.prog W = .ok (setPage p a b == setPage p a b) W := run_eq_page W 9998 _ _ Try.underlying23 Try.underlying5 byte_size _ _
              refine asked_val (.bool true) (want_at 18 78 true true rfl rfl ((hw 78 18 rfl).trans (hd 18 rfl))) (run_bin rfl (E82.trans h22) (E86.trans h26) (by simp [go_sem, heq])) rfl
            · intro ρ y W hw hn hb hd
              have E78 := hw 78 18 rfl
              have h18 : y 18 = .bool true := hd 18 rfl
              have E87 := hw 87 27 rfl
              have h27 : y 27 = .bool true := hd 27 rfl
              have EC : ∀ v, ρ (.const v) = v := fun v => hn (.const v) trivial
              refine asked_val (.bool true) (want_free rfl) (run_pick rfl (E78.trans h18) (by simpa using (E87.trans h27))) rfl
            · intro ρ y W hw hn hb hd
              have E88 := hw 88 28 rfl
              have h28 : y 28 = .bool true := hd 28 rfl
              refine asked_val (.bool true) (want_free rfl) (run_move (.inl rfl) (E88.trans h28)) rfl
            · intro ρ y W hw hn hb hd
              have E2 : ρ (.tmp 2) = .int .i64 n := (hn (.tmp 2) rfl).trans rfl
              refine asked_val (.int .i64 n) (want_at 29 89 true true rfl rfl ((hw 89 29 rfl).trans (hd 29 rfl))) (run_move (.inl rfl) E2) rfl
            · intro ρ y W hw hn hb hd
              have E90 := hw 90 30 rfl
              have h30 : y 30 = .int .i64 n := hd 30 rfl
              have EF : ∀ f, ρ (.func f) = .func (.func f) #[] #[] := fun f => hn (.func f) trivial
              refine asked_call _ _ (want_at 29 89 true true rfl rfl ((hw 89 29 rfl).trans (hd 29 rfl))) (run_call rfl (EF _) Try.func23 (by kernel_rfl) (by kernel_rfl) (by simp only [List.map_toArray, List.map_cons, List.map_nil, E90, h30, EF]; rfl)) ?_
              refine (count_any n W hn0).mono ?_
              rintro e w1 ⟨rfl, rfl⟩
              exact ⟨_, rfl, Below.refl _ _, rfl⟩
            · intro ρ y W hw hn hb hd
              have E2 : ρ (.tmp 2) = .int .i64 n := (hn (.tmp 2) rfl).trans rfl
              refine asked_val (.int .i64 n) (want_at 29 89 true true rfl rfl ((hw 89 29 rfl).trans (hd 29 rfl))) (run_move (.inl rfl) E2) rfl
            · intro ρ y W hw hn hb hd
              have E92 := hw 92 32 rfl
              have h32 : y 32 = .int .i64 n := hd 32 rfl
              have EF : ∀ f, ρ (.func f) = .func (.func f) #[] #[] := fun f => hn (.func f) trivial
              refine asked_call _ _ (want_at 29 89 true true rfl rfl ((hw 89 29 rfl).trans (hd 29 rfl))) (run_call rfl (EF _) Try.func24 (by kernel_rfl) (by kernel_rfl) (by simp only [List.map_toArray, List.map_cons, List.map_nil, E92, h32, EF]; rfl)) ?_
              refine (rcount_any n W hn0).mono ?_
              rintro e w1 ⟨rfl, rfl⟩
              exact ⟨_, rfl, Below.refl _ _, rfl⟩
            · intro ρ y W hw hn hb hd
              have E91 := hw 91 31 rfl
              have h31 : y 31 = .int .i64 (countS n) := hd 31 rfl
              have E93 := hw 93 33 rfl
              have h33 : y 33 = .int .i64 (countS n) := hd 33 rfl
              refine asked_val (.bool true) (want_at 29 89 true true rfl rfl ((hw 89 29 rfl).trans (hd 29 rfl))) (run_bin rfl (E91.trans h31) (E93.trans h33) (by simp [go_sem])) rfl
            · intro ρ y W hw hn hb hd
              have E89 := hw 89 29 rfl
              have h29 : y 29 = .bool true := hd 29 rfl
              have E94 := hw 94 34 rfl
              have h34 : y 34 = .bool true := hd 34 rfl
              have EC : ∀ v, ρ (.const v) = v := fun v => hn (.const v) trivial
              refine asked_val (.bool true) (want_free rfl) (run_pick rfl (E89.trans h29) (by simpa using (E94.trans h34))) rfl
            · intro ρ y W hw hn hb hd
              have E95 := hw 95 35 rfl
              have h35 : y 35 = .bool true := hd 35 rfl
              refine asked_val (.bool true) (want_free rfl) (run_move (.inr rfl) (E95.trans h35)) rfl
            intro y WA hbWA hRWA
            have hy0 : y 0 = .int .i64 a := hRWA 0 (by decide)
            have hy1 : y 1 = .int .i64 n := hRWA 1 (by decide)
            have hy2 : y 2 = .bool (withinS a n) := hRWA 2 (by decide)
            have hy3 : y 3 = .bool (withinS a n) := hRWA 3 (by decide)
            have hy4 : y 4 = .bool true := hRWA 4 (by decide)
            have hy5 : y 5 = .bool true := hRWA 5 (by decide)
            have hy6 : y 6 = .agg (pgC p) := hRWA 6 (by decide)
            have hy7 : y 7 = .int .i64 a := hRWA 7 (by decide)
            have hy8 : y 8 = .int .i64 n := hRWA 8 (by decide)
            have hy10 : y 10 = .string ⟨(getL p a n).toArray⟩ := hRWA 10 (by decide)
            have hy11 : y 11 = .agg (pgC p) := hRWA 11 (by decide)
            have hy12 : y 12 = .int .i64 a := hRWA 12 (by decide)
            have hy13 : y 13 = .int .i64 n := hRWA 13 (by decide)
            have hy15 : y 15 = .string ⟨(getL p a n).toArray⟩ := hRWA 15 (by decide)
            have hy16 : y 16 = .bool true := hRWA 16 (by decide)
            have hy17 : y 17 = .bool true := hRWA 17 (by decide)
            have hy18 : y 18 = .bool true := hRWA 18 (by decide)
            have hy19 : y 19 = .agg (pgC p) := hRWA 19 (by decide)
            have hy20 : y 20 = .int .i64 a := hRWA 20 (by decide)
            have hy21 : y 21 = .slice ab b.length c := hRWA 21 (by decide)
            have hy22 : y 22 = .agg (pgC (setPage p a b)) := hRWA 22 (by decide)
            have hy23 : y 23 = .agg (pgC p) := hRWA 23 (by decide)
            have hy24 : y 24 = .int .i64 a := hRWA 24 (by decide)
            have hy25 : y 25 = .slice ab b.length c := hRWA 25 (by decide)
            have hy26 : y 26 = .agg (pgC (setPage p a b)) := hRWA 26 (by decide)
            have hy27 : y 27 = .bool true := hRWA 27 (by decide)
            have hy28 : y 28 = .bool true := hRWA 28 (by decide)
            have hy29 : y 29 = .bool true := hRWA 29 (by decide)
            have hy30 : y 30 = .int .i64 n := hRWA 30 (by decide)
            have hy31 : y 31 = .int .i64 (countS n) := hRWA 31 (by decide)
            have hy32 : y 32 = .int .i64 n := hRWA 32 (by decide)
            have hy33 : y 33 = .int .i64 (countS n) := hRWA 33 (by decide)
            have hy34 : y 34 = .bool true := hRWA 34 (by decide)
            have hy35 : y 35 = .bool true := hRWA 35 (by decide)
            have hy36 : y 36 = .bool true := hRWA 36 (by decide)
            obtain ⟨ya9, yc9, hy9, yle9, ymx9, ynil9, yrd9⟩ := hRWA 9 (by decide)
            obtain ⟨ya14, yc14, hy14, yle14, ymx14, ynil14, yrd14⟩ := hRWA 14 (by decide)
            clear hRWA
            simp only [lay, Nat.reduceAdd, Nat.reduceLT, decide_true, decide_false, if_true, Bool.false_eq_true, if_false, List.setIfInBounds_toArray, List.set_cons_zero, List.set_cons_succ, List.drop_succ_cons, List.drop_zero, List.drop_nil, hy0, hy1, hy2, hy3, hy4, hy5, hy6, hy7, hy8, hy9, hy10, hy11, hy12, hy13, hy14, hy15, hy16, hy17, hy18, hy19, hy20, hy21, hy22, hy23, hy24, hy25, hy26, hy27, hy28, hy29, hy30, hy31, hy32, hy33, hy34, hy35, hy36]
            clear hy0 hy1 hy2 hy3 hy4 hy5 hy6 hy7 hy8 hy9 hy10 hy11 hy12 hy13 hy14 hy15 hy16 hy17 hy18 hy19 hy20 hy21 hy22 hy23 hy24 hy25 hy26 hy27 hy28 hy29 hy30 hy31 hy32 hy33 hy34 hy35 hy36
            go_wp2
            go_ret
            exact ⟨rfl, below_next hbel2 hbWA⟩
      · have hwi := key false (by unfold withinS; simp; omega)
        clear key
        go_upto_region 11 with (fail)
        all_goals
          refine wp_grow 37 [isV (.int .i64 a), isV (.int .i64 n), isV (.bool (withinS a n)), isV (.bool (withinS a n)), isV (.bool true), isV (.bool true), isV (.agg (pgC p)), isV (.int .i64 a), isV (.int .i64 n), slR (getL p a n).length ((getL p a n).map byV), isV (.string ⟨(getL p a n).toArray⟩), isV (.agg (pgC p)), isV (.int .i64 a), isV (.int .i64 n), slR (getL p a n).length ((getL p a n).map byV), isV (.string ⟨(getL p a n).toArray⟩), isV (.bool true), isV (.bool true), isV (.bool true), isV (.agg (pgC p)), isV (.int .i64 a), isV (.slice ab b.length c), isV (.agg (pgC (setPage p a b))), isV (.agg (pgC p)), isV (.int .i64 a), isV (.slice ab b.length c), isV (.agg (pgC (setPage p a b))), isV (.bool true), isV (.bool true), isV (.bool true), isV (.int .i64 n), isV (.int .i64 (countS n)), isV (.int .i64 n), isV (.int .i64 (countS n)), isV (.bool true), isV (.bool true), isV (.bool true)] (by kernel_rfl) (by kernel_rfl) (by kernel_rfl) (by decide) _ rfl (by kernel_rfl) (all_cons ?_ (all_cons ?_ (all_cons ?_ (all_cons ?_ (all_cons ?_ (all_cons ?_ (all_cons ?_ (all_cons ?_ (all_cons ?_ (all_cons ?_ (all_cons ?_ (all_cons ?_ (all_cons ?_ (all_cons ?_ (all_cons ?_ (all_cons ?_ (all_cons ?_ (all_cons ?_ (all_cons ?_ (all_cons ?_ (all_cons ?_ (all_cons ?_ (all_cons ?_ (all_cons ?_ (all_cons ?_ (all_cons ?_ (all_cons ?_ (all_cons ?_ (all_cons ?_ (all_cons ?_ (all_cons ?_ (all_cons ?_ (all_cons ?_ (all_cons ?_ (all_cons ?_ (all_cons ?_ (all_cons ?_ (all_nil)))))))))))))))))))))))))))))))))))))) ?_
          · intro ρ y W hw hn hb hd
            have E1 : ρ (.tmp 1) = .int .i64 a := (hn (.tmp 1) rfl).trans rfl
            refine asked_val (.int .i64 a) (want_free rfl) (run_move (.inl rfl) E1) rfl
          · intro ρ y W hw hn hb hd
            have E2 : ρ (.tmp 2) = .int .i64 n := (hn (.tmp 2) rfl).trans rfl
            refine asked_val (.int .i64 n) (want_free rfl) (run_move (.inl rfl) E2) rfl
          · intro ρ y W hw hn hb hd
            have E60 := hw 60 0 rfl
            have h0 : y 0 = .int .i64 a := hd 0 rfl
            have E61 := hw 61 1 rfl
            have h1 : y 1 = .int .i64 n := hd 1 rfl
            have EF : ∀ f, ρ (.func f) = .func (.func f) #[] #[] := fun f => hn (.func f) trivial
            refine asked_call _ _ (want_free rfl) (run_call rfl (EF _) Try.func18 (by kernel_rfl) (by kernel_rfl) (by simp only [List.map_toArray, List.map_cons, List.map_nil, E60, h0, E61, h1, EF]; rfl)) ?_
            refine (within_any a n W).mono ?_
            rintro e w1 ⟨rfl, rfl⟩
            exact ⟨_, rfl, Below.refl _ _, rfl⟩
          · intro ρ y W hw hn hb hd
            have E11 : ρ (.tmp 11) = .bool (withinS a n) := (hn (.tmp 11) rfl).trans (by rw [hwi.out]; rfl)
            refine asked_val (.bool (withinS a n)) (want_free rfl) (run_move (.inl rfl) E11) rfl
          · intro ρ y W hw hn hb hd
            have E62 := hw 62 2 rfl
            have h2 : y 2 = .bool (withinS a n) := hd 2 rfl
            have E63 := hw 63 3 rfl
            have h3 : y 3 = .bool (withinS a n) := hd 3 rfl
            refine asked_val (.bool true) (want_free rfl) (run_bin rfl (E62.trans h2) (E63.trans h3) (by simp [go_sem])) rfl
          · intro ρ y W hw hn hb hd
            have E64 := hw 64 4 rfl
            have h4 : y 4 = .bool true := hd 4 rfl
            refine asked_val (.bool true) (want_free rfl) (run_move (.inl rfl) (E64.trans h4)) rfl
          · intro ρ y W hw hn hb hd
            have E4 : ρ (.tmp 4) = .pointer (some ⟨w.heap.size, 0, none⟩) := (hn (.tmp 4) rfl).trans rfl
            refine asked_val (.agg (pgC p)) (want_at 5 65 true true rfl rfl ((hw 65 5 rfl).trans (hd 5 rfl))) (run_load_blk rfl E4 (hp2.ext hb) Try.underlying23 rfl (by rw [pgC_size]; exact page_size)) rfl
          · intro ρ y W hw hn hb hd
            have E1 : ρ (.tmp 1) = .int .i64 a := (hn (.tmp 1) rfl).trans rfl
            refine asked_val (.int .i64 a) (want_at 5 65 true true rfl rfl ((hw 65 5 rfl).trans (hd 5 rfl))) (run_move (.inl rfl) E1) rfl
          · intro ρ y W hw hn hb hd
            have E2 : ρ (.tmp 2) = .int .i64 n := (hn (.tmp 2) rfl).trans rfl
            refine asked_val (.int .i64 n) (want_at 5 65 true true rfl rfl ((hw 65 5 rfl).trans (hd 5 rfl))) (run_move (.inl rfl) E2) rfl
          · intro ρ y W hw hn hb hd
            have E66 := hw 66 6 rfl
            have h6 : y 6 = .agg (pgC p) := hd 6 rfl
            have E67 := hw 67 7 rfl
            have h7 : y 7 = .int .i64 a := hd 7 rfl
            have E68 := hw 68 8 rfl
            have h8 : y 8 = .int .i64 n := hd 8 rfl
            have EF : ∀ f, ρ (.func f) = .func (.func f) #[] #[] := fun f => hn (.func f) trivial
            refine asked_call _ _ (want_at 5 65 true true rfl rfl ((hw 65 5 rfl).trans (hd 5 rfl))) (run_call rfl (EF _) Try.func19 (by kernel_rfl) (by kernel_rfl) (by simp only [List.map_toArray, List.map_cons, List.map_nil, E66, h6, E67, h7, E68, h8, EF]; rfl)) ?_
            refine (get_any p a n W).mono ?_
            rintro e w1 ⟨v, rfl, ho, hb1⟩
            exact ⟨v, rfl, hb1, ho.rd⟩
          · intro ρ y W hw hn hb hd
            have E69 := hw 69 9 rfl
            obtain ⟨a9, c9, h9, hle9, hmx9, hnil9, hrd9⟩ := hd 9 rfl
            refine asked_val (.string ⟨(getL p a n).toArray⟩) (want_at 5 65 true true rfl rfl ((hw 65 5 rfl).trans (hd 5 rfl))) (run_conv rfl (E69.trans h9) (conv_bytes Try.underlying24 Try.underlying5 c9 hrd9 9 Try.underlying9)) rfl
          · intro ρ y W hw hn hb hd
            have E4 : ρ (.tmp 4) = .pointer (some ⟨w.heap.size, 0, none⟩) := (hn (.tmp 4) rfl).trans rfl
            refine asked_val (.agg (pgC p)) (want_at 5 65 true true rfl rfl ((hw 65 5 rfl).trans (hd 5 rfl))) (run_load_blk rfl E4 (hp2.ext hb) Try.underlying23 rfl (by rw [pgC_size]; exact page_size)) rfl
          · intro ρ y W hw hn hb hd
            have E1 : ρ (.tmp 1) = .int .i64 a := (hn (.tmp 1) rfl).trans rfl
            refine asked_val (.int .i64 a) (want_at 5 65 true true rfl rfl ((hw 65 5 rfl).trans (hd 5 rfl))) (run_move (.inl rfl) E1) rfl
          · intro ρ y W hw hn hb hd
            have E2 : ρ (.tmp 2) = .int .i64 n := (hn (.tmp 2) rfl).trans rfl
            refine asked_val (.int .i64 n) (want_at 5 65 true true rfl rfl ((hw 65 5 rfl).trans (hd 5 rfl))) (run_move (.inl rfl) E2) rfl
          · intro ρ y W hw hn hb hd
            have E71 := hw 71 11 rfl
            have h11 : y 11 = .agg (pgC p) := hd 11 rfl
            have E72 := hw 72 12 rfl
            have h12 : y 12 = .int .i64 a := hd 12 rfl
            have E73 := hw 73 13 rfl
            have h13 : y 13 = .int .i64 n := hd 13 rfl
            have EF : ∀ f, ρ (.func f) = .func (.func f) #[] #[] := fun f => hn (.func f) trivial
            refine asked_call _ _ (want_at 5 65 true true rfl rfl ((hw 65 5 rfl).trans (hd 5 rfl))) (run_call rfl (EF _) Try.func20 (by kernel_rfl) (by kernel_rfl) (by simp only [List.map_toArray, List.map_cons, List.map_nil, E71, h11, E72, h12, E73, h13, EF]; rfl)) ?_
            refine (rget_any p a n W).mono ?_
            rintro e w1 ⟨v, rfl, ho, hb1⟩
            exact ⟨v, rfl, hb1, ho.rd⟩
          · intro ρ y W hw hn hb hd
            have E74 := hw 74 14 rfl
            obtain ⟨a14, c14, h14, hle14, hmx14, hnil14, hrd14⟩ := hd 14 rfl
            refine asked_val (.string ⟨(getL p a n).toArray⟩) (want_at 5 65 true true rfl rfl ((hw 65 5 rfl).trans (hd 5 rfl))) (run_conv rfl (E74.trans h14) (conv_bytes Try.underlying24 Try.underlying5 c14 hrd14 9 Try.underlying9)) rfl
          · intro ρ y W hw hn hb hd
            have E70 := hw 70 10 rfl
            have h10 : y 10 = .string ⟨(getL p a n).toArray⟩ := hd 10 rfl
            have E75 := hw 75 15 rfl
            have h15 : y 15 = .string ⟨(getL p a n).toArray⟩ := hd 15 rfl
            refine asked_val (.bool true) (want_at 5 65 true true rfl rfl ((hw 65 5 rfl).trans (hd 5 rfl))) (run_bin rfl (E70.trans h10) (E75.trans h15) (by simp [go_sem])) rfl
          · intro ρ y W hw hn hb hd
            have E65 := hw 65 5 rfl
            have h5 : y 5 = .bool true := hd 5 rfl
            have E76 := hw 76 16 rfl
            have h16 : y 16 = .bool true := hd 16 rfl
            have EC : ∀ v, ρ (.const v) = v := fun v => hn (.const v) trivial
            refine asked_val (.bool true) (want_free rfl) (run_pick rfl (E65.trans h5) (by simpa using (E76.trans h16))) rfl
          · intro ρ y W hw hn hb hd
            have E77 := hw 77 17 rfl
            have h17 : y 17 = .bool true := hd 17 rfl
            refine asked_val (.bool true) (want_free rfl) (run_move (.inl rfl) (E77.trans h17)) rfl
          · intro ρ y W hw hn hb hd
            have E4 : ρ (.tmp 4) = .pointer (some ⟨w.heap.size, 0, none⟩) := (hn (.tmp 4) rfl).trans rfl
            refine asked_val (.agg (pgC p)) (want_at 18 78 true true rfl rfl ((hw 78 18 rfl).trans (hd 18 rfl))) (run_load_blk rfl E4 (hp2.ext hb) Try.underlying23 rfl (by rw [pgC_size]; exact page_size)) rfl
          · intro ρ y W hw hn hb hd
            have E1 : ρ (.tmp 1) = .int .i64 a := (hn (.tmp 1) rfl).trans rfl
            refine asked_val (.int .i64 a) (want_at 18 78 true true rfl rfl ((hw 78 18 rfl).trans (hd 18 rfl))) (run_move (.inl rfl) E1) rfl
          · intro ρ y W hw hn hb hd
            have E3 : ρ (.tmp 3) = .slice ab b.length c := (hn (.tmp 3) rfl).trans rfl
            refine asked_val (.slice ab b.length c) (want_at 18 78 true true rfl rfl ((hw 78 18 rfl).trans (hd 18 rfl))) (run_move (.inl rfl) E3) rfl
          · intro ρ y W hw hn hb hd
            have E79 := hw 79 19 rfl
            have h19 : y 19 = .agg (pgC p) := hd 19 rfl
            have E80 := hw 80 20 rfl
            have h20 : y 20 = .int .i64 a := hd 20 rfl
            have E81 := hw 81 21 rfl
            have h21 : y 21 = .slice ab b.length c := hd 21 rfl
            have EF : ∀ f, ρ (.func f) = .func (.func f) #[] #[] := fun f => hn (.func f) trivial
            refine asked_call _ _ (want_at 18 78 true true rfl rfl ((hw 78 18 rfl).trans (hd 18 rfl))) (run_call rfl (EF _) Try.func21 (by kernel_rfl) (by kernel_rfl) (by simp only [List.map_toArray, List.map_cons, List.map_nil, E79, h19, E80, h20, E81, h21, EF]; rfl)) ?_
            refine (set_any p a ab b c W (hbs.below hb)).mono ?_
            rintro e w1 ⟨rfl, hb1⟩
            exact ⟨_, rfl, hb1, rfl⟩
          · intro ρ y W hw hn hb hd
            have E4 : ρ (.tmp 4) = .pointer (some ⟨w.heap.size, 0, none⟩) := (hn (.tmp 4) rfl).trans rfl
            refine asked_val (.agg (pgC p)) (want_at 18 78 true true rfl rfl ((hw 78 18 rfl).trans (hd 18 rfl))) (run_load_blk rfl E4 (hp2.ext hb) Try.underlying23 rfl (by rw [pgC_size]; exact page_size)) rfl
          · intro ρ y W hw hn hb hd
            have E1 : ρ (.tmp 1) = .int .i64 a := (hn (.tmp 1) rfl).trans rfl
            refine asked_val (.int .i64 a) (want_at 18 78 true true rfl rfl ((hw 78 18 rfl).trans (hd 18 rfl))) (run_move (.inl rfl) E1) rfl
          · intro ρ y W hw hn hb hd
            have E3 : ρ (.tmp 3) = .slice ab b.length c := (hn (.tmp 3) rfl).trans rfl
            refine asked_val (.slice ab b.length c) (want_at 18 78 true true rfl rfl ((hw 78 18 rfl).trans (hd 18 rfl))) (run_move (.inl rfl) E3) rfl
          · intro ρ y W hw hn hb hd
            have E83 := hw 83 23 rfl
            have h23 : y 23 = .agg (pgC p) := hd 23 rfl
            have E84 := hw 84 24 rfl
            have h24 : y 24 = .int .i64 a := hd 24 rfl
            have E85 := hw 85 25 rfl
            have h25 : y 25 = .slice ab b.length c := hd 25 rfl
            have EF : ∀ f, ρ (.func f) = .func (.func f) #[] #[] := fun f => hn (.func f) trivial
            refine asked_call _ _ (want_at 18 78 true true rfl rfl ((hw 78 18 rfl).trans (hd 18 rfl))) (run_call rfl (EF _) Try.func22 (by kernel_rfl) (by kernel_rfl) (by simp only [List.map_toArray, List.map_cons, List.map_nil, E83, h23, E84, h24, E85, h25, EF]; rfl)) ?_
            refine (rset_any p a ab b c W (hbs.below hb) hl).mono ?_
            rintro e w1 ⟨rfl, hb1⟩
            exact ⟨_, rfl, hb1, rfl⟩
          · intro ρ y W hw hn hb hd
            have E82 := hw 82 22 rfl
            have h22 : y 22 = .agg (pgC (setPage p a b)) := hd 22 rfl
            have E86 := hw 86 26 rfl
            have h26 : y 26 = .agg (pgC (setPage p a b)) := hd 26 rfl
            have heq : (Op.equalIn 10000 23 (.agg (pgC (setPage p a b))) (.agg (pgC (setPage p a b)))).run Try.prog W = .ok (setPage p a b == setPage p a b) W := run_eq_page W 9998 _ _ Try.underlying23 Try.underlying5 byte_size _ _
            refine asked_val (.bool true) (want_at 18 78 true true rfl rfl ((hw 78 18 rfl).trans (hd 18 rfl))) (run_bin rfl (E82.trans h22) (E86.trans h26) (by simp [go_sem, heq])) rfl
          · intro ρ y W hw hn hb hd
            have E78 := hw 78 18 rfl
            have h18 : y 18 = .bool true := hd 18 rfl
            have E87 := hw 87 27 rfl
            have h27 : y 27 = .bool true := hd 27 rfl
            have EC : ∀ v, ρ (.const v) = v := fun v => hn (.const v) trivial
            refine asked_val (.bool true) (want_free rfl) (run_pick rfl (E78.trans h18) (by simpa using (E87.trans h27))) rfl
          · intro ρ y W hw hn hb hd
            have E88 := hw 88 28 rfl
            have h28 : y 28 = .bool true := hd 28 rfl
            refine asked_val (.bool true) (want_free rfl) (run_move (.inl rfl) (E88.trans h28)) rfl
          · intro ρ y W hw hn hb hd
            have E2 : ρ (.tmp 2) = .int .i64 n := (hn (.tmp 2) rfl).trans rfl
            refine asked_val (.int .i64 n) (want_at 29 89 true true rfl rfl ((hw 89 29 rfl).trans (hd 29 rfl))) (run_move (.inl rfl) E2) rfl
          · intro ρ y W hw hn hb hd
            have E90 := hw 90 30 rfl
            have h30 : y 30 = .int .i64 n := hd 30 rfl
            have EF : ∀ f, ρ (.func f) = .func (.func f) #[] #[] := fun f => hn (.func f) trivial
            refine asked_call _ _ (want_at 29 89 true true rfl rfl ((hw 89 29 rfl).trans (hd 29 rfl))) (run_call rfl (EF _) Try.func23 (by kernel_rfl) (by kernel_rfl) (by simp only [List.map_toArray, List.map_cons, List.map_nil, E90, h30, EF]; rfl)) ?_
            refine (count_any n W hn0).mono ?_
            rintro e w1 ⟨rfl, rfl⟩
            exact ⟨_, rfl, Below.refl _ _, rfl⟩
          · intro ρ y W hw hn hb hd
            have E2 : ρ (.tmp 2) = .int .i64 n := (hn (.tmp 2) rfl).trans rfl
            refine asked_val (.int .i64 n) (want_at 29 89 true true rfl rfl ((hw 89 29 rfl).trans (hd 29 rfl))) (run_move (.inl rfl) E2) rfl
          · intro ρ y W hw hn hb hd
            have E92 := hw 92 32 rfl
            have h32 : y 32 = .int .i64 n := hd 32 rfl
            have EF : ∀ f, ρ (.func f) = .func (.func f) #[] #[] := fun f => hn (.func f) trivial
            refine asked_call _ _ (want_at 29 89 true true rfl rfl ((hw 89 29 rfl).trans (hd 29 rfl))) (run_call rfl (EF _) Try.func24 (by kernel_rfl) (by kernel_rfl) (by simp only [List.map_toArray, List.map_cons, List.map_nil, E92, h32, EF]; rfl)) ?_
            refine (rcount_any n W hn0).mono ?_
            rintro e w1 ⟨rfl, rfl⟩
            exact ⟨_, rfl, Below.refl _ _, rfl⟩
          · intro ρ y W hw hn hb hd
            have E91 := hw 91 31 rfl
            have h31 : y 31 = .int .i64 (countS n) := hd 31 rfl
            have E93 := hw 93 33 rfl
            have h33 : y 33 = .int .i64 (countS n) := hd 33 rfl
            refine asked_val (.bool true) (want_at 29 89 true true rfl rfl ((hw 89 29 rfl).trans (hd 29 rfl))) (run_bin rfl (E91.trans h31) (E93.trans h33) (by simp [go_sem])) rfl
          · intro ρ y W hw hn hb hd
            have E89 := hw 89 29 rfl
            have h29 : y 29 = .bool true := hd 29 rfl
            have E94 := hw 94 34 rfl
            have h34 : y 34 = .bool true := hd 34 rfl
            have EC : ∀ v, ρ (.const v) = v := fun v => hn (.const v) trivial
            refine asked_val (.bool true) (want_free rfl) (run_pick rfl (E89.trans h29) (by simpa using (E94.trans h34))) rfl
          · intro ρ y W hw hn hb hd
            have E95 := hw 95 35 rfl
            have h35 : y 35 = .bool true := hd 35 rfl
            refine asked_val (.bool true) (want_free rfl) (run_move (.inr rfl) (E95.trans h35)) rfl
          intro y WA hbWA hRWA
          have hy0 : y 0 = .int .i64 a := hRWA 0 (by decide)
          have hy1 : y 1 = .int .i64 n := hRWA 1 (by decide)
          have hy2 : y 2 = .bool (withinS a n) := hRWA 2 (by decide)
          have hy3 : y 3 = .bool (withinS a n) := hRWA 3 (by decide)
          have hy4 : y 4 = .bool true := hRWA 4 (by decide)
          have hy5 : y 5 = .bool true := hRWA 5 (by decide)
          have hy6 : y 6 = .agg (pgC p) := hRWA 6 (by decide)
          have hy7 : y 7 = .int .i64 a := hRWA 7 (by decide)
          have hy8 : y 8 = .int .i64 n := hRWA 8 (by decide)
          have hy10 : y 10 = .string ⟨(getL p a n).toArray⟩ := hRWA 10 (by decide)
          have hy11 : y 11 = .agg (pgC p) := hRWA 11 (by decide)
          have hy12 : y 12 = .int .i64 a := hRWA 12 (by decide)
          have hy13 : y 13 = .int .i64 n := hRWA 13 (by decide)
          have hy15 : y 15 = .string ⟨(getL p a n).toArray⟩ := hRWA 15 (by decide)
          have hy16 : y 16 = .bool true := hRWA 16 (by decide)
          have hy17 : y 17 = .bool true := hRWA 17 (by decide)
          have hy18 : y 18 = .bool true := hRWA 18 (by decide)
          have hy19 : y 19 = .agg (pgC p) := hRWA 19 (by decide)
          have hy20 : y 20 = .int .i64 a := hRWA 20 (by decide)
          have hy21 : y 21 = .slice ab b.length c := hRWA 21 (by decide)
          have hy22 : y 22 = .agg (pgC (setPage p a b)) := hRWA 22 (by decide)
          have hy23 : y 23 = .agg (pgC p) := hRWA 23 (by decide)
          have hy24 : y 24 = .int .i64 a := hRWA 24 (by decide)
          have hy25 : y 25 = .slice ab b.length c := hRWA 25 (by decide)
          have hy26 : y 26 = .agg (pgC (setPage p a b)) := hRWA 26 (by decide)
          have hy27 : y 27 = .bool true := hRWA 27 (by decide)
          have hy28 : y 28 = .bool true := hRWA 28 (by decide)
          have hy29 : y 29 = .bool true := hRWA 29 (by decide)
          have hy30 : y 30 = .int .i64 n := hRWA 30 (by decide)
          have hy31 : y 31 = .int .i64 (countS n) := hRWA 31 (by decide)
          have hy32 : y 32 = .int .i64 n := hRWA 32 (by decide)
          have hy33 : y 33 = .int .i64 (countS n) := hRWA 33 (by decide)
          have hy34 : y 34 = .bool true := hRWA 34 (by decide)
          have hy35 : y 35 = .bool true := hRWA 35 (by decide)
          have hy36 : y 36 = .bool true := hRWA 36 (by decide)
          obtain ⟨ya9, yc9, hy9, yle9, ymx9, ynil9, yrd9⟩ := hRWA 9 (by decide)
          obtain ⟨ya14, yc14, hy14, yle14, ymx14, ynil14, yrd14⟩ := hRWA 14 (by decide)
          clear hRWA
          simp only [lay, Nat.reduceAdd, Nat.reduceLT, decide_true, decide_false, if_true, Bool.false_eq_true, if_false, List.setIfInBounds_toArray, List.set_cons_zero, List.set_cons_succ, List.drop_succ_cons, List.drop_zero, List.drop_nil, hy0, hy1, hy2, hy3, hy4, hy5, hy6, hy7, hy8, hy9, hy10, hy11, hy12, hy13, hy14, hy15, hy16, hy17, hy18, hy19, hy20, hy21, hy22, hy23, hy24, hy25, hy26, hy27, hy28, hy29, hy30, hy31, hy32, hy33, hy34, hy35, hy36]
          clear hy0 hy1 hy2 hy3 hy4 hy5 hy6 hy7 hy8 hy9 hy10 hy11 hy12 hy13 hy14 hy15 hy16 hy17 hy18 hy19 hy20 hy21 hy22 hy23 hy24 hy25 hy26 hy27 hy28 hy29 hy30 hy31 hy32 hy33 hy34 hy35 hy36
          go_wp2
          go_ret
          exact ⟨rfl, below_next hbel2 hbWA⟩
end Go.Proofs.Ytohbfjbcfibhcaa
