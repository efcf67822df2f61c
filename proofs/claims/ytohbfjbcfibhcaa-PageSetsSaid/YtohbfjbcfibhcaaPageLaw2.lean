/- The law PageSets of package pglaw1, walked: it returns true. -/
import Derived.Test.YtohbfjbcfibhcaaPage
import Derived.Test.YtohbfjbcfibhcaaGrow
import Derived.BigQuiet
import Derived.IntWalk
import Derived.Deep.QuietTactic
import Derived.Deep.DeepCutAuto
namespace Go.Proofs.Ytohbfjbcfibhcaa
open Go.RowKit Pw
set_option linter.unusedSimpArgs false
set_option linter.unusedVariables false


/-! ### what is set is got: plain -/
theorem toList_get (p : Page) (i : Nat) (h : i < 8) : p.toList[i]? = some p[i] := by simp [h]
theorem got_self (p : Page) (x : Nat) (b : List UInt8) (h : x + b.length ≤ 8) : getL (setPage p x b) x b.length = b := by
  unfold getL
  rw [if_neg (by omega)]
  apply List.ext_getElem?
  intro i
  simp only [Int.toNat_natCast]
  by_cases hi : i < b.length
  · rw [List.getElem?_take, if_pos hi, List.getElem?_drop, toList_get _ _ (by omega), setPage_get _ _ _ (by omega), if_pos (by omega)]
    simp [hi]
  · rw [List.getElem?_eq_none (by simp; omega), List.getElem?_eq_none (by omega)]
theorem set_twice (p : Page) (x : Nat) (b c : List UInt8) (hc : c.length = b.length) : setPage (setPage p x b) x c = setPage p x c := by
  by_cases hx : x < 8
  · ext i hi
    rw [setPage_get (setPage p x b) x c hx i hi, setPage_get p x c hx i hi]
    by_cases h1 : x ≤ i
    · rw [if_pos h1, if_pos h1]
      by_cases h2 : i - x < c.length
      · rw [List.getElem?_eq_getElem h2]
        rfl
      · rw [List.getElem?_eq_none (by omega), setPage_get p x b hx i hi, if_pos h1, List.getElem?_eq_none (by omega)]
        rfl
    · rw [if_neg h1, if_neg h1, setPage_get p x b hx i hi, if_neg h1]
  · unfold setPage
    rw [if_neg (by omega), if_neg (by omega), if_neg (by omega)]
theorem got_out (p : Page) (x : Nat) (b : List UInt8) (s n : Nat) (h8 : s + n ≤ 8) (h : s + n ≤ x ∨ x + b.length ≤ s) : getL (setPage p x b) s n = getL p s n := by
  unfold getL
  rw [if_neg (by omega), if_neg (by omega)]
  simp only [Int.toNat_natCast]
  apply List.ext_getElem?
  intro i
  by_cases hi : i < n
  · rw [List.getElem?_take, if_pos hi, List.getElem?_drop, toList_get _ _ (by omega), List.getElem?_take, if_pos hi, List.getElem?_drop, toList_get _ _ (by omega)]
    congr 1
    by_cases hx : x < 8
    · rw [setPage_get _ _ _ hx]
      by_cases h1 : x ≤ s + i
      · rw [if_pos h1, List.getElem?_eq_none (by omega)]; rfl
      · rw [if_neg h1]
    · unfold setPage
      rw [if_neg (by omega)]
  · rw [List.getElem?_eq_none (by simp; omega), List.getElem?_eq_none (by simp; omega)]

theorem psize : (Try.prog.info? 23).map (·.size) = some 8 := by kernel_rfl
def zP : Page := #v[0, 0, 0, 0, 0, 0, 0, 0]
def qP : Page := #v[0, 0, 7, 8, 0, 0, 0, 0]
theorem zP_set : setPage zP 2 [7, 8] = qP := by decide
set_option maxHeartbeats 1000000 in
set_option maxRecDepth 100000 in
theorem alive1 (w : World) : Calls Try.prog 25 #[] w fun e w' => e = .returned (.bool true) ∧ Below w.heap.size w w' := by
  go_enter Try.func25, Try.ntmps25
  go_wp2_with fail
  refine (set_any zP 2 _ [7, 8] 2 _ ?_).mono ?_
  · exact RdV.new w _ _
  rintro e w1 ⟨rfl, hb1⟩
  rw [zP_set]
  have hbel1 := below_next ((Below.refl _ _).alloc (Nat.le_refl _) _) hb1
  clear hb1
  go_wp2_with (with_reducible refine wpList_stw rfl _ (.tmp 1) (.tmp 4) rfl w1.heap.size (pgC qP) rfl rfl _ _ (Blk.new _ _ _) (by simp [pgC_size]) (by rw [pgC_size]; exact psize) (pgC_one _) ?k)
  intro w2 hq2 hgr
  have hbel2 : Below w.heap.size w w2 := (hbel1.alloc hbel1.size _).grown hgr (le_alloc' hbel1.size _) (fun k hk => by cases hk; exact hbel1.size)
  have hc2 := hq2.cell
  have h3 : (pgC qP)[3]? = some (.int .u8 8) := rfl
  obtain ⟨e0, e1, e2, e3, e4, e5, e6, e7⟩ := pgC_all qP
  have hpp : #[Value.int .u8 qP[0].toNat, Value.int .u8 qP[1].toNat, Value.int .u8 qP[2].toNat, Value.int .u8 qP[3].toNat, Value.int .u8 qP[4].toNat, Value.int .u8 qP[5].toNat, Value.int .u8 qP[6].toNat, Value.int .u8 qP[7].toNat] = pgC qP := rfl
  clear hgr e3
  go_wp2_with fail
  refine (get_any qP 2 2 _).mono ?_
  rintro e w3 ⟨v, rfl, ho, hb3⟩
  obtain ⟨a, c, rfl, _, _, _, _⟩ := ho.rd
  have hl : (getL qP 2 2).length = 2 := by decide
  rw [hl]
  have hq3 := hq2.ext hb3
  have hbel3 := below_next hbel2 hb3
  clear ho hc2
  have hc3 := hq3.cell
  go_wp2_with fail
  refine (within_any 9 7 _).mono ?_
  rintro e w4 ⟨rfl, rfl⟩
  rw [show withinS 9 7 = true from by decide]
  go_wp2_with fail
  refine (within_any 9 8 _).mono ?_
  rintro e w4 ⟨rfl, rfl⟩
  rw [show withinS 9 8 = false from by decide]
  go_wp2_with fail
  refine (count_any 9 _ (by omega)).mono ?_
  rintro e w4 ⟨rfl, rfl⟩
  rw [show countS 9 = 2 from by decide]
  go_wp2_with fail
  refine (cut_any qP 3 _).mono ?_
  rintro e w4 ⟨rfl, hb4⟩
  have hbel4 := below_next hbel3 hb4
  have hcut : pgC (cutPage qP 3) = #[.int .u8 0, .int .u8 0, .int .u8 7, .int .u8 0, .int .u8 0, .int .u8 0, .int .u8 0, .int .u8 0] := by
    rw [show cutPage qP 3 = #v[0, 0, 7, 0, 0, 0, 0, 0] from by decide]; rfl
  rw [hcut]
  have hix : ∀ w, (Instr.index 23 (.agg #[.int .u8 0, .int .u8 0, .int .u8 7, .int .u8 0, .int .u8 0, .int .u8 0, .int .u8 0, .int .u8 0]) (.int .i64 3)).run Try.prog w = .ok (.int .u8 0) w := fun _ => by kernel_rfl
  go_wp2
  go_ret
  exact ⟨rfl, hbel4⟩

set_option maxHeartbeats 2000000 in
set_option maxRecDepth 100000 in
theorem sets_in (p : Page) (x : Nat) (ab ac : Option Addr) (b c : List UInt8) (cb cc : Nat) (w : World) (hb0 : RdV w ab (b.map byV)) (hc0 : RdV w ac (c.map byV)) (h8 : x + b.length ≤ 8) (hlen : c.length = b.length) :
    Calls Try.prog 4 #[.agg (pgC p), .int .i64 (x : Int), .slice ab b.length cb, .slice ac c.length cc] w fun e w' => e = .returned (.bool true) ∧ Below w.heap.size w w' := by
  have g1 := got_self p x b h8
  have g2 := set_twice p x b c hlen
  have g3 : getL (setPage p x b) 0 x = getL p 0 x := got_out p x b 0 x (by omega) (.inl (by omega))
  have g4 := got_out p x b (x + b.length) (8 - x - b.length) (by omega) (.inr (by omega))
  rw [show (((8 - x - b.length : Nat)) : Int) = 8 - x - b.length from by omega, show (((x + b.length : Nat)) : Int) = x + b.length from by omega] at g4
  have G := Lib.hid (And.intro g1 (And.intro g2 (And.intro g3 g4)))
  clear g1 g2 g3 g4
  have HL := Lib.hid hlen
  have hlz : ((c.length : Int) != (b.length : Int)) = false := by rw [hlen]; simp
  have i1 : (x : Int) ≤ 8 := by omega
  have i2 : (b.length : Int) ≤ 8 - (x : Int) := by omega
  clear hlen
  go_enter Try.func4, Try.ntmps4
  go_wp2_with fail
  refine (alive1 _).mono ?_
  rintro e w1 ⟨rfl, hb1⟩
  have hp1 : Blk w1 w.heap.size (pgC p) 23 := (Blk.new w (pgC p) _).ext hb1
  have hbel1 := below_next ((Below.refl _ _).alloc (Nat.le_refl _) _) hb1
  clear hb1
  have hc1 := hp1.cell
  obtain ⟨e0, e1, e2, e3, e4, e5, e6, e7⟩ := pgC_all p
  have hpp : #[Value.int .u8 p[0].toNat, Value.int .u8 p[1].toNat, Value.int .u8 p[2].toNat, Value.int .u8 p[3].toNat, Value.int .u8 p[4].toNat, Value.int .u8 p[5].toNat, Value.int .u8 p[6].toNat, Value.int .u8 p[7].toNat] = pgC p := rfl
  go_wp2_with fail
  refine (set_any p x ab b cb _ (hb0.below hbel1)).mono ?_
  rintro e w2 ⟨rfl, hb2⟩
  have hp2 := hp1.ext hb2
  have hbel2 := below_next hbel1 hb2
  clear hb2 hc1 hp1 e0 e1 e2 e3 e4 e5 e6 e7 hpp
  go_wp2_with (with_reducible refine wpList_stw rfl _ (.tmp 9) (.tmp 35) rfl w2.heap.size (pgC (setPage p x b)) rfl rfl _ _ (Blk.new _ _ _) (by simp [pgC_size]) (by rw [pgC_size]; exact psize) (pgC_one _) ?k)
  intro w3 hq hgr
  have hsz := hp2.lt
  have hp : Blk w3 w.heap.size (pgC p) 23 := (hp2.alloc _).grown hgr (by simp; omega)
  have hbel3 : Below w.heap.size w w3 := (hbel2.alloc hbel2.size _).grown hgr (le_alloc' hbel2.size _) (fun k hk => by cases hk; exact hbel2.size)
  have hbs := hb0.below hbel3
  have hcs := hc0.below hbel3
  obtain ⟨g1, g2, g3, g4⟩ := G.out
  clear hgr hp2 hbel2 hbel1 G hb0 hc0
  go_upto_region 6 with (fail)
  refine wp_grow 20 [isV (.agg (pgC (setPage p x b))), isV (.int .i64 (x : Int)), isV (.slice ab b.length cb), isV (.int .i64 (b.length : Int)), slR (getL (setPage p x b) (x) (b.length)).length ((getL (setPage p x b) (x) (b.length)).map byV), isV (.string ⟨(getL (setPage p x b) (x) (b.length)).toArray⟩), isV (.slice ab b.length cb), isV (.string ⟨b.toArray⟩), isV (.bool false), isV (.bool false), isV (.agg (pgC (setPage p x b))), isV (.int .i64 (x : Int)), isV (.slice ac c.length cc), isV (.agg (pgC (setPage (setPage p x b) x c))), isV (.agg (pgC p)), isV (.int .i64 (x : Int)), isV (.slice ac c.length cc), isV (.agg (pgC (setPage p x c))), isV (.bool false), isV (.bool false)] (by kernel_rfl) (by kernel_rfl) (by kernel_rfl) (by decide) _ rfl (by kernel_rfl) (all_cons ?_ (all_cons ?_ (all_cons ?_ (all_cons ?_ (all_cons ?_ (all_cons ?_ (all_cons ?_ (all_cons ?_ (all_cons ?_ (all_cons ?_ (all_cons ?_ (all_cons ?_ (all_cons ?_ (all_cons ?_ (all_cons ?_ (all_cons ?_ (all_cons ?_ (all_cons ?_ (all_cons ?_ (all_cons ?_ (all_nil))))))))))))))))))))) ?_
  · intro ρ y W hw hn hb hd
    have E9 : ρ (.tmp 9) = .pointer (some ⟨w2.heap.size, 0, none⟩) := (hn (.tmp 9) rfl).trans rfl
    refine asked_val (.agg (pgC (setPage p x b))) (want_free rfl) (run_load_blk rfl E9 (hq.ext hb) Try.underlying23 rfl (by rw [pgC_size]; exact psize)) rfl
  · intro ρ y W hw hn hb hd
    have E1 : ρ (.tmp 1) = .int .i64 (x : Int) := (hn (.tmp 1) rfl).trans rfl
    refine asked_val (.int .i64 (x : Int)) (want_free rfl) (run_move (.inl rfl) E1) rfl
  · intro ρ y W hw hn hb hd
    have E2 : ρ (.tmp 2) = .slice ab b.length cb := (hn (.tmp 2) rfl).trans rfl
    refine asked_val (.slice ab b.length cb) (want_free rfl) (run_move (.inl rfl) E2) rfl
  · intro ρ y W hw hn hb hd
    have E38 := hw 38 2 rfl
    have h2 : y 2 = .slice ab b.length cb := hd 2 rfl
    refine asked_val (.int .i64 (b.length : Int)) (want_free rfl) (run_lenS rfl (E38.trans h2) Try.underlying24) rfl
  · intro ρ y W hw hn hb hd
    have E36 := hw 36 0 rfl
    have h0 : y 0 = .agg (pgC (setPage p x b)) := hd 0 rfl
    have E37 := hw 37 1 rfl
    have h1 : y 1 = .int .i64 (x : Int) := hd 1 rfl
    have E39 := hw 39 3 rfl
    have h3 : y 3 = .int .i64 (b.length : Int) := hd 3 rfl
    have EF : ∀ f, ρ (.func f) = .func (.func f) #[] #[] := fun f => hn (.func f) trivial
    refine asked_call _ _ (want_free rfl) (run_call rfl (EF _) Try.func19 (by kernel_rfl) (by kernel_rfl) (by simp only [List.map_toArray, List.map_cons, List.map_nil, E36, h0, E37, h1, E39, h3, EF]; rfl)) ?_
    refine (get_any (setPage p x b) (x) (b.length) W).mono ?_
    rintro e w1 ⟨v, rfl, ho, hb1⟩
    exact ⟨v, rfl, hb1, ho.rd⟩
  · intro ρ y W hw hn hb hd
    have E40 := hw 40 4 rfl
    obtain ⟨a4, c4, h4, hle4, hmx4, hnil4, hrd4⟩ := hd 4 rfl
    refine asked_val (.string ⟨(getL (setPage p x b) (x) (b.length)).toArray⟩) (want_free rfl) (run_conv rfl (E40.trans h4) (conv_bytes Try.underlying24 Try.underlying5 c4 hrd4 9 Try.underlying9)) rfl
  · intro ρ y W hw hn hb hd
    have E2 : ρ (.tmp 2) = .slice ab b.length cb := (hn (.tmp 2) rfl).trans rfl
    refine asked_val (.slice ab b.length cb) (want_free rfl) (run_move (.inl rfl) E2) rfl
  · intro ρ y W hw hn hb hd
    have E42 := hw 42 6 rfl
    have h6 : y 6 = .slice ab b.length cb := hd 6 rfl
    refine asked_val (.string ⟨b.toArray⟩) (want_free rfl) (run_conv rfl (E42.trans h6) (conv_bytes Try.underlying24 Try.underlying5 cb (hbs.below hb) 9 Try.underlying9)) rfl
  · intro ρ y W hw hn hb hd
    have E41 := hw 41 5 rfl
    have h5 : y 5 = .string ⟨(getL (setPage p x b) (x) (b.length)).toArray⟩ := hd 5 rfl
    have E43 := hw 43 7 rfl
    have h7 : y 7 = .string ⟨b.toArray⟩ := hd 7 rfl
    refine asked_val (.bool false) (want_free rfl) (run_bin rfl (E41.trans h5) (E43.trans h7) (by simp [go_sem, g1])) rfl
  · intro ρ y W hw hn hb hd
    have E44 := hw 44 8 rfl
    have h8 : y 8 = .bool false := hd 8 rfl
    refine asked_val (.bool false) (want_free rfl) (run_move (.inl rfl) (E44.trans h8)) rfl
  · intro ρ y W hw hn hb hd
    have E9 : ρ (.tmp 9) = .pointer (some ⟨w2.heap.size, 0, none⟩) := (hn (.tmp 9) rfl).trans rfl
    refine asked_val (.agg (pgC (setPage p x b))) (want_at 9 45 false false rfl rfl ((hw 45 9 rfl).trans (hd 9 rfl))) (run_load_blk rfl E9 (hq.ext hb) Try.underlying23 rfl (by rw [pgC_size]; exact psize)) rfl
  · intro ρ y W hw hn hb hd
    have E1 : ρ (.tmp 1) = .int .i64 (x : Int) := (hn (.tmp 1) rfl).trans rfl
    refine asked_val (.int .i64 (x : Int)) (want_at 9 45 false false rfl rfl ((hw 45 9 rfl).trans (hd 9 rfl))) (run_move (.inl rfl) E1) rfl
  · intro ρ y W hw hn hb hd
    have E3 : ρ (.tmp 3) = .slice ac c.length cc := (hn (.tmp 3) rfl).trans rfl
    refine asked_val (.slice ac c.length cc) (want_at 9 45 false false rfl rfl ((hw 45 9 rfl).trans (hd 9 rfl))) (run_move (.inl rfl) E3) rfl
  · intro ρ y W hw hn hb hd
    have E46 := hw 46 10 rfl
    have h10 : y 10 = .agg (pgC (setPage p x b)) := hd 10 rfl
    have E47 := hw 47 11 rfl
    have h11 : y 11 = .int .i64 (x : Int) := hd 11 rfl
    have E48 := hw 48 12 rfl
    have h12 : y 12 = .slice ac c.length cc := hd 12 rfl
    have EF : ∀ f, ρ (.func f) = .func (.func f) #[] #[] := fun f => hn (.func f) trivial
    refine asked_call _ _ (want_at 9 45 false false rfl rfl ((hw 45 9 rfl).trans (hd 9 rfl))) (run_call rfl (EF _) Try.func21 (by kernel_rfl) (by kernel_rfl) (by simp only [List.map_toArray, List.map_cons, List.map_nil, E46, h10, E47, h11, E48, h12, EF]; rfl)) ?_
    refine (set_any (setPage p x b) x ac c cc W (hcs.below hb)).mono ?_
    rintro e w1 ⟨rfl, hb1⟩
    exact ⟨_, rfl, hb1, rfl⟩
  · intro ρ y W hw hn hb hd
    have E4 : ρ (.tmp 4) = .pointer (some ⟨w.heap.size, 0, none⟩) := (hn (.tmp 4) rfl).trans rfl
    refine asked_val (.agg (pgC p)) (want_at 9 45 false false rfl rfl ((hw 45 9 rfl).trans (hd 9 rfl))) (run_load_blk rfl E4 (hp.ext hb) Try.underlying23 rfl (by rw [pgC_size]; exact psize)) rfl
  · intro ρ y W hw hn hb hd
    have E1 : ρ (.tmp 1) = .int .i64 (x : Int) := (hn (.tmp 1) rfl).trans rfl
    refine asked_val (.int .i64 (x : Int)) (want_at 9 45 false false rfl rfl ((hw 45 9 rfl).trans (hd 9 rfl))) (run_move (.inl rfl) E1) rfl
  · intro ρ y W hw hn hb hd
    have E3 : ρ (.tmp 3) = .slice ac c.length cc := (hn (.tmp 3) rfl).trans rfl
    refine asked_val (.slice ac c.length cc) (want_at 9 45 false false rfl rfl ((hw 45 9 rfl).trans (hd 9 rfl))) (run_move (.inl rfl) E3) rfl
  · intro ρ y W hw hn hb hd
    have E50 := hw 50 14 rfl
    have h14 : y 14 = .agg (pgC p) := hd 14 rfl
    have E51 := hw 51 15 rfl
    have h15 : y 15 = .int .i64 (x : Int) := hd 15 rfl
    have E52 := hw 52 16 rfl
    have h16 : y 16 = .slice ac c.length cc := hd 16 rfl
    have EF : ∀ f, ρ (.func f) = .func (.func f) #[] #[] := fun f => hn (.func f) trivial
    refine asked_call _ _ (want_at 9 45 false false rfl rfl ((hw 45 9 rfl).trans (hd 9 rfl))) (run_call rfl (EF _) Try.func21 (by kernel_rfl) (by kernel_rfl) (by simp only [List.map_toArray, List.map_cons, List.map_nil, E50, h14, E51, h15, E52, h16, EF]; rfl)) ?_
    refine (set_any p x ac c cc W (hcs.below hb)).mono ?_
    rintro e w1 ⟨rfl, hb1⟩
    exact ⟨_, rfl, hb1, rfl⟩
  · intro ρ y W hw hn hb hd
    have E49 := hw 49 13 rfl
    have h13 : y 13 = .agg (pgC (setPage (setPage p x b) x c)) := hd 13 rfl
    have E53 := hw 53 17 rfl
    have h17 : y 17 = .agg (pgC (setPage p x c)) := hd 17 rfl
    have heq : (Op.equalIn 10000 23 (.agg (pgC (setPage p x c))) (.agg (pgC (setPage p x c)))).run Try.prog W = .ok (setPage p x c == setPage p x c) W := run_eq_page W 9998 _ _ Try.underlying23 Try.underlying5 byte_size _ _
    refine asked_val (.bool false) (want_at 9 45 false false rfl rfl ((hw 45 9 rfl).trans (hd 9 rfl))) (run_bin rfl (E49.trans h13) (E53.trans h17) (by simp [go_sem, heq, g2])) rfl
  · intro ρ y W hw hn hb hd
    have E45 := hw 45 9 rfl
    have h9 : y 9 = .bool false := hd 9 rfl
    have E54 := hw 54 18 rfl
    have h18 : y 18 = .bool false := hd 18 rfl
    refine asked_val (.bool false) (want_free rfl) (run_pick rfl (E45.trans h9) (by simpa using (E54.trans h18))) rfl
  intro y WA hbWA hRWA
  have hy0 : y 0 = .agg (pgC (setPage p x b)) := hRWA 0 (by decide)
  have hy1 : y 1 = .int .i64 (x : Int) := hRWA 1 (by decide)
  have hy2 : y 2 = .slice ab b.length cb := hRWA 2 (by decide)
  have hy3 : y 3 = .int .i64 (b.length : Int) := hRWA 3 (by decide)
  have hy5 : y 5 = .string ⟨(getL (setPage p x b) (x) (b.length)).toArray⟩ := hRWA 5 (by decide)
  have hy6 : y 6 = .slice ab b.length cb := hRWA 6 (by decide)
  have hy7 : y 7 = .string ⟨b.toArray⟩ := hRWA 7 (by decide)
  have hy8 : y 8 = .bool false := hRWA 8 (by decide)
  have hy9 : y 9 = .bool false := hRWA 9 (by decide)
  have hy10 : y 10 = .agg (pgC (setPage p x b)) := hRWA 10 (by decide)
  have hy11 : y 11 = .int .i64 (x : Int) := hRWA 11 (by decide)
  have hy12 : y 12 = .slice ac c.length cc := hRWA 12 (by decide)
  have hy13 : y 13 = .agg (pgC (setPage (setPage p x b) x c)) := hRWA 13 (by decide)
  have hy14 : y 14 = .agg (pgC p) := hRWA 14 (by decide)
  have hy15 : y 15 = .int .i64 (x : Int) := hRWA 15 (by decide)
  have hy16 : y 16 = .slice ac c.length cc := hRWA 16 (by decide)
  have hy17 : y 17 = .agg (pgC (setPage p x c)) := hRWA 17 (by decide)
  have hy18 : y 18 = .bool false := hRWA 18 (by decide)
  have hy19 : y 19 = .bool false := hRWA 19 (by decide)
  obtain ⟨ya4, yc4, hy4, yle4, ymx4, ynil4, yrd4⟩ := hRWA 4 (by decide)
  clear hRWA
  simp only [lay, Nat.reduceAdd, Nat.reduceLT, decide_true, decide_false, if_true, Bool.false_eq_true, if_false, List.setIfInBounds_toArray, List.set_cons_zero, List.set_cons_succ, List.drop_succ_cons, List.drop_zero, List.drop_nil, hy0, hy1, hy2, hy3, hy4, hy5, hy6, hy7, hy8, hy9, hy10, hy11, hy12, hy13, hy14, hy15, hy16, hy17, hy18, hy19]
  clear hy0 hy1 hy2 hy3 hy4 hy5 hy6 hy7 hy8 hy9 hy10 hy11 hy12 hy13 hy14 hy15 hy16 hy17 hy18 hy19
  go_wp2_with fail
  have wab : IntKind.i64.wrap ((x : Int) + b.length) = x + b.length := IntWalk.i64_in _ (by omega)
  have wa8 : IntKind.i64.wrap (8 - (x : Int)) = 8 - x := IntWalk.i64_in _ (by omega)
  have wab8 : IntKind.i64.wrap (8 - (x : Int) - b.length) = 8 - x - b.length := IntWalk.i64_in _ (by omega)
  have hbs := hbs.below hbWA
  have hcs := hcs.below hbWA
  have hp := hp.ext hbWA
  have hq := hq.ext hbWA
  have hbel4 := below_next hbel3 hbWA
  refine wp_grow 37 [isV (.agg (pgC (setPage p x b))), isV (.int .i64 (x : Int)), slR (getL (setPage p x b) (0) (x)).length ((getL (setPage p x b) (0) (x)).map byV), isV (.string ⟨(getL (setPage p x b) (0) (x)).toArray⟩), isV (.agg (pgC p)), isV (.int .i64 (x : Int)), slR (getL p (0) (x)).length ((getL p (0) (x)).map byV), isV (.string ⟨(getL p (0) (x)).toArray⟩), isV (.bool true), isV (.bool true), isV (.agg (pgC (setPage p x b))), isV (.int .i64 (x : Int)), isV (.slice ab b.length cb), isV (.int .i64 (b.length : Int)), isV (.int .i64 (x + b.length)), isV (.int .i64 (x : Int)), isV (.int .i64 (8 - x)), isV (.slice ab b.length cb), isV (.int .i64 (b.length : Int)), isV (.int .i64 (8 - x - b.length)), slR (getL (setPage p x b) (x + b.length) (8 - x - b.length)).length ((getL (setPage p x b) (x + b.length) (8 - x - b.length)).map byV), isV (.string ⟨(getL (setPage p x b) (x + b.length) (8 - x - b.length)).toArray⟩), isV (.agg (pgC p)), isV (.int .i64 (x : Int)), isV (.slice ab b.length cb), isV (.int .i64 (b.length : Int)), isV (.int .i64 (x + b.length)), isV (.int .i64 (x : Int)), isV (.int .i64 (8 - x)), isV (.slice ab b.length cb), isV (.int .i64 (b.length : Int)), isV (.int .i64 (8 - x - b.length)), slR (getL p (x + b.length) (8 - x - b.length)).length ((getL p (x + b.length) (8 - x - b.length)).map byV), isV (.string ⟨(getL p (x + b.length) (8 - x - b.length)).toArray⟩), isV (.bool true), isV (.bool true), isV (.bool true)] (by kernel_rfl) (by kernel_rfl) (by kernel_rfl) (by decide) _ rfl (by kernel_rfl) (all_cons ?_ (all_cons ?_ (all_cons ?_ (all_cons ?_ (all_cons ?_ (all_cons ?_ (all_cons ?_ (all_cons ?_ (all_cons ?_ (all_cons ?_ (all_cons ?_ (all_cons ?_ (all_cons ?_ (all_cons ?_ (all_cons ?_ (all_cons ?_ (all_cons ?_ (all_cons ?_ (all_cons ?_ (all_cons ?_ (all_cons ?_ (all_cons ?_ (all_cons ?_ (all_cons ?_ (all_cons ?_ (all_cons ?_ (all_cons ?_ (all_cons ?_ (all_cons ?_ (all_cons ?_ (all_cons ?_ (all_cons ?_ (all_cons ?_ (all_cons ?_ (all_cons ?_ (all_cons ?_ (all_cons ?_ (all_nil)))))))))))))))))))))))))))))))))))))) ?_
  · intro ρ y W hw hn hb hd
    have E9 : ρ (.tmp 9) = .pointer (some ⟨w2.heap.size, 0, none⟩) := (hn (.tmp 9) rfl).trans rfl
    refine asked_val (.agg (pgC (setPage p x b))) (want_free rfl) (run_load_blk rfl E9 (hq.ext hb) Try.underlying23 rfl (by rw [pgC_size]; exact psize)) rfl
  · intro ρ y W hw hn hb hd
    have E1 : ρ (.tmp 1) = .int .i64 (x : Int) := (hn (.tmp 1) rfl).trans rfl
    refine asked_val (.int .i64 (x : Int)) (want_free rfl) (run_move (.inl rfl) E1) rfl
  · intro ρ y W hw hn hb hd
    have E56 := hw 56 0 rfl
    have h0 : y 0 = .agg (pgC (setPage p x b)) := hd 0 rfl
    have E57 := hw 57 1 rfl
    have h1 : y 1 = .int .i64 (x : Int) := hd 1 rfl
    have EC : ∀ v, ρ (.const v) = v := fun v => hn (.const v) trivial
    have EF : ∀ f, ρ (.func f) = .func (.func f) #[] #[] := fun f => hn (.func f) trivial
    refine asked_call _ _ (want_free rfl) (run_call rfl (EF _) Try.func19 (by kernel_rfl) (by kernel_rfl) (by simp only [List.map_toArray, List.map_cons, List.map_nil, E56, h0, E57, h1, EC, EF]; rfl)) ?_
    refine (get_any (setPage p x b) (0) (x) W).mono ?_
    rintro e w1 ⟨v, rfl, ho, hb1⟩
    exact ⟨v, rfl, hb1, ho.rd⟩
  · intro ρ y W hw hn hb hd
    have E58 := hw 58 2 rfl
    obtain ⟨a2, c2, h2, hle2, hmx2, hnil2, hrd2⟩ := hd 2 rfl
    refine asked_val (.string ⟨(getL (setPage p x b) (0) (x)).toArray⟩) (want_free rfl) (run_conv rfl (E58.trans h2) (conv_bytes Try.underlying24 Try.underlying5 c2 hrd2 9 Try.underlying9)) rfl
  · intro ρ y W hw hn hb hd
    have E4 : ρ (.tmp 4) = .pointer (some ⟨w.heap.size, 0, none⟩) := (hn (.tmp 4) rfl).trans rfl
    refine asked_val (.agg (pgC p)) (want_free rfl) (run_load_blk rfl E4 (hp.ext hb) Try.underlying23 rfl (by rw [pgC_size]; exact psize)) rfl
  · intro ρ y W hw hn hb hd
    have E1 : ρ (.tmp 1) = .int .i64 (x : Int) := (hn (.tmp 1) rfl).trans rfl
    refine asked_val (.int .i64 (x : Int)) (want_free rfl) (run_move (.inl rfl) E1) rfl
  · intro ρ y W hw hn hb hd
    have E60 := hw 60 4 rfl
    have h4 : y 4 = .agg (pgC p) := hd 4 rfl
    have E61 := hw 61 5 rfl
    have h5 : y 5 = .int .i64 (x : Int) := hd 5 rfl
    have EC : ∀ v, ρ (.const v) = v := fun v => hn (.const v) trivial
    have EF : ∀ f, ρ (.func f) = .func (.func f) #[] #[] := fun f => hn (.func f) trivial
    refine asked_call _ _ (want_free rfl) (run_call rfl (EF _) Try.func19 (by kernel_rfl) (by kernel_rfl) (by simp only [List.map_toArray, List.map_cons, List.map_nil, E60, h4, E61, h5, EC, EF]; rfl)) ?_
    refine (get_any p (0) (x) W).mono ?_
    rintro e w1 ⟨v, rfl, ho, hb1⟩
    exact ⟨v, rfl, hb1, ho.rd⟩
  · intro ρ y W hw hn hb hd
    have E62 := hw 62 6 rfl
    obtain ⟨a6, c6, h6, hle6, hmx6, hnil6, hrd6⟩ := hd 6 rfl
    refine asked_val (.string ⟨(getL p (0) (x)).toArray⟩) (want_free rfl) (run_conv rfl (E62.trans h6) (conv_bytes Try.underlying24 Try.underlying5 c6 hrd6 9 Try.underlying9)) rfl
  · intro ρ y W hw hn hb hd
    have E59 := hw 59 3 rfl
    have h3 : y 3 = .string ⟨(getL (setPage p x b) (0) (x)).toArray⟩ := hd 3 rfl
    have E63 := hw 63 7 rfl
    have h7 : y 7 = .string ⟨(getL p (0) (x)).toArray⟩ := hd 7 rfl
    refine asked_val (.bool true) (want_free rfl) (run_bin rfl (E59.trans h3) (E63.trans h7) (by simp [go_sem, g3])) rfl
  · intro ρ y W hw hn hb hd
    have E64 := hw 64 8 rfl
    have h8 : y 8 = .bool true := hd 8 rfl
    refine asked_val (.bool true) (want_free rfl) (run_move (.inl rfl) (E64.trans h8)) rfl
  · intro ρ y W hw hn hb hd
    have E9 : ρ (.tmp 9) = .pointer (some ⟨w2.heap.size, 0, none⟩) := (hn (.tmp 9) rfl).trans rfl
    refine asked_val (.agg (pgC (setPage p x b))) (want_at 9 65 true true rfl rfl ((hw 65 9 rfl).trans (hd 9 rfl))) (run_load_blk rfl E9 (hq.ext hb) Try.underlying23 rfl (by rw [pgC_size]; exact psize)) rfl
  · intro ρ y W hw hn hb hd
    have E1 : ρ (.tmp 1) = .int .i64 (x : Int) := (hn (.tmp 1) rfl).trans rfl
    refine asked_val (.int .i64 (x : Int)) (want_at 9 65 true true rfl rfl ((hw 65 9 rfl).trans (hd 9 rfl))) (run_move (.inl rfl) E1) rfl
  · intro ρ y W hw hn hb hd
    have E2 : ρ (.tmp 2) = .slice ab b.length cb := (hn (.tmp 2) rfl).trans rfl
    refine asked_val (.slice ab b.length cb) (want_at 9 65 true true rfl rfl ((hw 65 9 rfl).trans (hd 9 rfl))) (run_move (.inl rfl) E2) rfl
  · intro ρ y W hw hn hb hd
    have E68 := hw 68 12 rfl
    have h12 : y 12 = .slice ab b.length cb := hd 12 rfl
    refine asked_val (.int .i64 (b.length : Int)) (want_at 9 65 true true rfl rfl ((hw 65 9 rfl).trans (hd 9 rfl))) (run_lenS rfl (E68.trans h12) Try.underlying24) rfl
  · intro ρ y W hw hn hb hd
    have E67 := hw 67 11 rfl
    have h11 : y 11 = .int .i64 (x : Int) := hd 11 rfl
    have E69 := hw 69 13 rfl
    have h13 : y 13 = .int .i64 (b.length : Int) := hd 13 rfl
    refine asked_val (.int .i64 (x + b.length)) (want_at 9 65 true true rfl rfl ((hw 65 9 rfl).trans (hd 9 rfl))) (run_bin rfl (E67.trans h11) (E69.trans h13) (by simp [go_sem, wab])) rfl
  · intro ρ y W hw hn hb hd
    have E1 : ρ (.tmp 1) = .int .i64 (x : Int) := (hn (.tmp 1) rfl).trans rfl
    refine asked_val (.int .i64 (x : Int)) (want_at 9 65 true true rfl rfl ((hw 65 9 rfl).trans (hd 9 rfl))) (run_move (.inl rfl) E1) rfl
  · intro ρ y W hw hn hb hd
    have E71 := hw 71 15 rfl
    have h15 : y 15 = .int .i64 (x : Int) := hd 15 rfl
    refine asked_val (.int .i64 (8 - x)) (want_at 9 65 true true rfl rfl ((hw 65 9 rfl).trans (hd 9 rfl))) (run_bin rfl (hn (.const _) trivial) (E71.trans h15) (by simp [go_sem, wa8])) rfl
  · intro ρ y W hw hn hb hd
    have E2 : ρ (.tmp 2) = .slice ab b.length cb := (hn (.tmp 2) rfl).trans rfl
    refine asked_val (.slice ab b.length cb) (want_at 9 65 true true rfl rfl ((hw 65 9 rfl).trans (hd 9 rfl))) (run_move (.inl rfl) E2) rfl
  · intro ρ y W hw hn hb hd
    have E73 := hw 73 17 rfl
    have h17 : y 17 = .slice ab b.length cb := hd 17 rfl
    refine asked_val (.int .i64 (b.length : Int)) (want_at 9 65 true true rfl rfl ((hw 65 9 rfl).trans (hd 9 rfl))) (run_lenS rfl (E73.trans h17) Try.underlying24) rfl
  · intro ρ y W hw hn hb hd
    have E72 := hw 72 16 rfl
    have h16 : y 16 = .int .i64 (8 - x) := hd 16 rfl
    have E74 := hw 74 18 rfl
    have h18 : y 18 = .int .i64 (b.length : Int) := hd 18 rfl
    refine asked_val (.int .i64 (8 - x - b.length)) (want_at 9 65 true true rfl rfl ((hw 65 9 rfl).trans (hd 9 rfl))) (run_bin rfl (E72.trans h16) (E74.trans h18) (by simp [go_sem, wab8])) rfl
  · intro ρ y W hw hn hb hd
    have E66 := hw 66 10 rfl
    have h10 : y 10 = .agg (pgC (setPage p x b)) := hd 10 rfl
    have E70 := hw 70 14 rfl
    have h14 : y 14 = .int .i64 (x + b.length) := hd 14 rfl
    have E75 := hw 75 19 rfl
    have h19 : y 19 = .int .i64 (8 - x - b.length) := hd 19 rfl
    have EF : ∀ f, ρ (.func f) = .func (.func f) #[] #[] := fun f => hn (.func f) trivial
    refine asked_call _ _ (want_at 9 65 true true rfl rfl ((hw 65 9 rfl).trans (hd 9 rfl))) (run_call rfl (EF _) Try.func19 (by kernel_rfl) (by kernel_rfl) (by simp only [List.map_toArray, List.map_cons, List.map_nil, E66, h10, E70, h14, E75, h19, EF]; rfl)) ?_
    refine (get_any (setPage p x b) (x + b.length) (8 - x - b.length) W).mono ?_
    rintro e w1 ⟨v, rfl, ho, hb1⟩
    exact ⟨v, rfl, hb1, ho.rd⟩
  · intro ρ y W hw hn hb hd
    have E76 := hw 76 20 rfl
    obtain ⟨a20, c20, h20, hle20, hmx20, hnil20, hrd20⟩ := hd 20 rfl
    refine asked_val (.string ⟨(getL (setPage p x b) (x + b.length) (8 - x - b.length)).toArray⟩) (want_at 9 65 true true rfl rfl ((hw 65 9 rfl).trans (hd 9 rfl))) (run_conv rfl (E76.trans h20) (conv_bytes Try.underlying24 Try.underlying5 c20 hrd20 9 Try.underlying9)) rfl
  · intro ρ y W hw hn hb hd
    have E4 : ρ (.tmp 4) = .pointer (some ⟨w.heap.size, 0, none⟩) := (hn (.tmp 4) rfl).trans rfl
    refine asked_val (.agg (pgC p)) (want_at 9 65 true true rfl rfl ((hw 65 9 rfl).trans (hd 9 rfl))) (run_load_blk rfl E4 (hp.ext hb) Try.underlying23 rfl (by rw [pgC_size]; exact psize)) rfl
  · intro ρ y W hw hn hb hd
    have E1 : ρ (.tmp 1) = .int .i64 (x : Int) := (hn (.tmp 1) rfl).trans rfl
    refine asked_val (.int .i64 (x : Int)) (want_at 9 65 true true rfl rfl ((hw 65 9 rfl).trans (hd 9 rfl))) (run_move (.inl rfl) E1) rfl
  · intro ρ y W hw hn hb hd
    have E2 : ρ (.tmp 2) = .slice ab b.length cb := (hn (.tmp 2) rfl).trans rfl
    refine asked_val (.slice ab b.length cb) (want_at 9 65 true true rfl rfl ((hw 65 9 rfl).trans (hd 9 rfl))) (run_move (.inl rfl) E2) rfl
  · intro ρ y W hw hn hb hd
    have E80 := hw 80 24 rfl
    have h24 : y 24 = .slice ab b.length cb := hd 24 rfl
    refine asked_val (.int .i64 (b.length : Int)) (want_at 9 65 true true rfl rfl ((hw 65 9 rfl).trans (hd 9 rfl))) (run_lenS rfl (E80.trans h24) Try.underlying24) rfl
  · intro ρ y W hw hn hb hd
    have E79 := hw 79 23 rfl
    have h23 : y 23 = .int .i64 (x : Int) := hd 23 rfl
    have E81 := hw 81 25 rfl
    have h25 : y 25 = .int .i64 (b.length : Int) := hd 25 rfl
    refine asked_val (.int .i64 (x + b.length)) (want_at 9 65 true true rfl rfl ((hw 65 9 rfl).trans (hd 9 rfl))) (run_bin rfl (E79.trans h23) (E81.trans h25) (by simp [go_sem, wab])) rfl
  · intro ρ y W hw hn hb hd
    have E1 : ρ (.tmp 1) = .int .i64 (x : Int) := (hn (.tmp 1) rfl).trans rfl
    refine asked_val (.int .i64 (x : Int)) (want_at 9 65 true true rfl rfl ((hw 65 9 rfl).trans (hd 9 rfl))) (run_move (.inl rfl) E1) rfl
  · intro ρ y W hw hn hb hd
    have E83 := hw 83 27 rfl
    have h27 : y 27 = .int .i64 (x : Int) := hd 27 rfl
    refine asked_val (.int .i64 (8 - x)) (want_at 9 65 true true rfl rfl ((hw 65 9 rfl).trans (hd 9 rfl))) (run_bin rfl (hn (.const _) trivial) (E83.trans h27) (by simp [go_sem, wa8])) rfl
  · intro ρ y W hw hn hb hd
    have E2 : ρ (.tmp 2) = .slice ab b.length cb := (hn (.tmp 2) rfl).trans rfl
    refine asked_val (.slice ab b.length cb) (want_at 9 65 true true rfl rfl ((hw 65 9 rfl).trans (hd 9 rfl))) (run_move (.inl rfl) E2) rfl
  · intro ρ y W hw hn hb hd
    have E85 := hw 85 29 rfl
    have h29 : y 29 = .slice ab b.length cb := hd 29 rfl
    refine asked_val (.int .i64 (b.length : Int)) (want_at 9 65 true true rfl rfl ((hw 65 9 rfl).trans (hd 9 rfl))) (run_lenS rfl (E85.trans h29) Try.underlying24) rfl
  · intro ρ y W hw hn hb hd
    have E84 := hw 84 28 rfl
    have h28 : y 28 = .int .i64 (8 - x) := hd 28 rfl
    have E86 := hw 86 30 rfl
    have h30 : y 30 = .int .i64 (b.length : Int) := hd 30 rfl
    refine asked_val (.int .i64 (8 - x - b.length)) (want_at 9 65 true true rfl rfl ((hw 65 9 rfl).trans (hd 9 rfl))) (run_bin rfl (E84.trans h28) (E86.trans h30) (by simp [go_sem, wab8])) rfl
  · intro ρ y W hw hn hb hd
    have E78 := hw 78 22 rfl
    have h22 : y 22 = .agg (pgC p) := hd 22 rfl
    have E82 := hw 82 26 rfl
    have h26 : y 26 = .int .i64 (x + b.length) := hd 26 rfl
    have E87 := hw 87 31 rfl
    have h31 : y 31 = .int .i64 (8 - x - b.length) := hd 31 rfl
    have EF : ∀ f, ρ (.func f) = .func (.func f) #[] #[] := fun f => hn (.func f) trivial
    refine asked_call _ _ (want_at 9 65 true true rfl rfl ((hw 65 9 rfl).trans (hd 9 rfl))) (run_call rfl (EF _) Try.func19 (by kernel_rfl) (by kernel_rfl) (by simp only [List.map_toArray, List.map_cons, List.map_nil, E78, h22, E82, h26, E87, h31, EF]; rfl)) ?_
    refine (get_any p (x + b.length) (8 - x - b.length) W).mono ?_
    rintro e w1 ⟨v, rfl, ho, hb1⟩
    exact ⟨v, rfl, hb1, ho.rd⟩
  · intro ρ y W hw hn hb hd
    have E88 := hw 88 32 rfl
    obtain ⟨a32, c32, h32, hle32, hmx32, hnil32, hrd32⟩ := hd 32 rfl
    refine asked_val (.string ⟨(getL p (x + b.length) (8 - x - b.length)).toArray⟩) (want_at 9 65 true true rfl rfl ((hw 65 9 rfl).trans (hd 9 rfl))) (run_conv rfl (E88.trans h32) (conv_bytes Try.underlying24 Try.underlying5 c32 hrd32 9 Try.underlying9)) rfl
  · intro ρ y W hw hn hb hd
    have E77 := hw 77 21 rfl
    have h21 : y 21 = .string ⟨(getL (setPage p x b) (x + b.length) (8 - x - b.length)).toArray⟩ := hd 21 rfl
    have E89 := hw 89 33 rfl
    have h33 : y 33 = .string ⟨(getL p (x + b.length) (8 - x - b.length)).toArray⟩ := hd 33 rfl
    refine asked_val (.bool true) (want_at 9 65 true true rfl rfl ((hw 65 9 rfl).trans (hd 9 rfl))) (run_bin rfl (E77.trans h21) (E89.trans h33) (by simp [go_sem, g4])) rfl
  · intro ρ y W hw hn hb hd
    have E65 := hw 65 9 rfl
    have h9 : y 9 = .bool true := hd 9 rfl
    have E90 := hw 90 34 rfl
    have h34 : y 34 = .bool true := hd 34 rfl
    refine asked_val (.bool true) (want_free rfl) (run_pick rfl (E65.trans h9) (by simpa using (E90.trans h34))) rfl
  · intro ρ y W hw hn hb hd
    have E91 := hw 91 35 rfl
    have h35 : y 35 = .bool true := hd 35 rfl
    refine asked_val (.bool true) (want_free rfl) (run_move (.inr rfl) (E91.trans h35)) rfl
  intro y WB hbWB hRWB
  have hy0 : y 0 = .agg (pgC (setPage p x b)) := hRWB 0 (by decide)
  have hy1 : y 1 = .int .i64 (x : Int) := hRWB 1 (by decide)
  have hy3 : y 3 = .string ⟨(getL (setPage p x b) (0) (x)).toArray⟩ := hRWB 3 (by decide)
  have hy4 : y 4 = .agg (pgC p) := hRWB 4 (by decide)
  have hy5 : y 5 = .int .i64 (x : Int) := hRWB 5 (by decide)
  have hy7 : y 7 = .string ⟨(getL p (0) (x)).toArray⟩ := hRWB 7 (by decide)
  have hy8 : y 8 = .bool true := hRWB 8 (by decide)
  have hy9 : y 9 = .bool true := hRWB 9 (by decide)
  have hy10 : y 10 = .agg (pgC (setPage p x b)) := hRWB 10 (by decide)
  have hy11 : y 11 = .int .i64 (x : Int) := hRWB 11 (by decide)
  have hy12 : y 12 = .slice ab b.length cb := hRWB 12 (by decide)
  have hy13 : y 13 = .int .i64 (b.length : Int) := hRWB 13 (by decide)
  have hy14 : y 14 = .int .i64 (x + b.length) := hRWB 14 (by decide)
  have hy15 : y 15 = .int .i64 (x : Int) := hRWB 15 (by decide)
  have hy16 : y 16 = .int .i64 (8 - x) := hRWB 16 (by decide)
  have hy17 : y 17 = .slice ab b.length cb := hRWB 17 (by decide)
  have hy18 : y 18 = .int .i64 (b.length : Int) := hRWB 18 (by decide)
  have hy19 : y 19 = .int .i64 (8 - x - b.length) := hRWB 19 (by decide)
  have hy21 : y 21 = .string ⟨(getL (setPage p x b) (x + b.length) (8 - x - b.length)).toArray⟩ := hRWB 21 (by decide)
  have hy22 : y 22 = .agg (pgC p) := hRWB 22 (by decide)
  have hy23 : y 23 = .int .i64 (x : Int) := hRWB 23 (by decide)
  have hy24 : y 24 = .slice ab b.length cb := hRWB 24 (by decide)
  have hy25 : y 25 = .int .i64 (b.length : Int) := hRWB 25 (by decide)
  have hy26 : y 26 = .int .i64 (x + b.length) := hRWB 26 (by decide)
  have hy27 : y 27 = .int .i64 (x : Int) := hRWB 27 (by decide)
  have hy28 : y 28 = .int .i64 (8 - x) := hRWB 28 (by decide)
  have hy29 : y 29 = .slice ab b.length cb := hRWB 29 (by decide)
  have hy30 : y 30 = .int .i64 (b.length : Int) := hRWB 30 (by decide)
  have hy31 : y 31 = .int .i64 (8 - x - b.length) := hRWB 31 (by decide)
  have hy33 : y 33 = .string ⟨(getL p (x + b.length) (8 - x - b.length)).toArray⟩ := hRWB 33 (by decide)
  have hy34 : y 34 = .bool true := hRWB 34 (by decide)
  have hy35 : y 35 = .bool true := hRWB 35 (by decide)
  have hy36 : y 36 = .bool true := hRWB 36 (by decide)
  obtain ⟨ya2, yc2, hy2, yle2, ymx2, ynil2, yrd2⟩ := hRWB 2 (by decide)
  obtain ⟨ya6, yc6, hy6, yle6, ymx6, ynil6, yrd6⟩ := hRWB 6 (by decide)
  obtain ⟨ya20, yc20, hy20, yle20, ymx20, ynil20, yrd20⟩ := hRWB 20 (by decide)
  obtain ⟨ya32, yc32, hy32, yle32, ymx32, ynil32, yrd32⟩ := hRWB 32 (by decide)
  clear hRWB
  simp only [lay, Nat.reduceAdd, Nat.reduceLT, decide_true, decide_false, if_true, Bool.false_eq_true, if_false, List.setIfInBounds_toArray, List.set_cons_zero, List.set_cons_succ, List.drop_succ_cons, List.drop_zero, List.drop_nil, hy0, hy1, hy2, hy3, hy4, hy5, hy6, hy7, hy8, hy9, hy10, hy11, hy12, hy13, hy14, hy15, hy16, hy17, hy18, hy19, hy20, hy21, hy22, hy23, hy24, hy25, hy26, hy27, hy28, hy29, hy30, hy31, hy32, hy33, hy34, hy35, hy36]
  clear hy0 hy1 hy2 hy3 hy4 hy5 hy6 hy7 hy8 hy9 hy10 hy11 hy12 hy13 hy14 hy15 hy16 hy17 hy18 hy19 hy20 hy21 hy22 hy23 hy24 hy25 hy26 hy27 hy28 hy29 hy30 hy31 hy32 hy33 hy34 hy35 hy36
  go_wp2
  go_ret
  exact ⟨rfl, below_next hbel4 hbWB⟩

set_option maxHeartbeats 1000000 in
set_option maxRecDepth 100000 in
theorem sets_out (p : Page) (a : Int) (ab ac : Option Addr) (b c : List UInt8) (cb cc : Nat) (w : World) (h : a < 0 ∨ 8 < a ∨ 8 - a < b.length ∨ c.length ≠ b.length) :
    Calls Try.prog 4 #[.agg (pgC p), .int .i64 a, .slice ab b.length cb, .slice ac c.length cc] w fun e w' => e = .returned (.bool true) ∧ Below w.heap.size w w' := by
  by_cases h1 : a < 0 ∨ 8 < a ∨ 8 - a < b.length
  · clear h
    go_enter Try.func4, Try.ntmps4
    go_wp2_with fail
    refine (alive1 _).mono ?_
    rintro e w1 ⟨rfl, hb1⟩
    have hbel1 := below_next ((Below.refl _ _).alloc (Nat.le_refl _) _) hb1
    clear hb1
    go_wp2_with fail
    all_goals first | (exfalso; omega) | (go_ret; exact ⟨rfl, hbel1⟩)
  · have h2 : ((c.length : Int) != (b.length : Int)) = true := by rw [bne_iff_ne]; omega
    have h3 : 0 ≤ a := by omega
    have h4 : a ≤ 8 := by omega
    have h5 : (b.length : Int) ≤ 8 - a := by omega
    clear h h1
    go_enter Try.func4, Try.ntmps4
    go_wp2_with fail
    refine (alive1 _).mono ?_
    rintro e w1 ⟨rfl, hb1⟩
    have hbel1 := below_next ((Below.refl _ _).alloc (Nat.le_refl _) _) hb1
    clear hb1
    go_wp2_with fail
    all_goals first | (exfalso; omega) | (go_ret; exact ⟨rfl, hbel1⟩)

theorem sets_any (p : Page) (a : Int) (ab ac : Option Addr) (b c : List UInt8) (cb cc : Nat) (w : World) (hb0 : RdV w ab (b.map byV)) (hc0 : RdV w ac (c.map byV)) :
    Calls Try.prog 4 #[.agg (pgC p), .int .i64 a, .slice ab b.length cb, .slice ac c.length cc] w fun e w' => e = .returned (.bool true) ∧ Below w.heap.size w w' := by
  by_cases h : a < 0 ∨ 8 < a ∨ 8 - a < b.length ∨ c.length ≠ b.length
  · exact sets_out p a ab ac b c cb cc w h
  · obtain ⟨x, rfl⟩ := Int.eq_ofNat_of_zero_le (show 0 ≤ a by omega)
    exact sets_in p x ab ac b c cb cc w hb0 hc0 (by omega) (by omega)
end Go.Proofs.Ytohbfjbcfibhcaa
