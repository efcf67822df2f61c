/- The law TableSets, walked. -/
import Derived.Test.YtmdnmknmniabeaaTabN
import Derived.Test.YtmdnmknmniabeaaTabM
import Derived.Test.YtmdnmknmniabeaaGrowY
namespace Go.Proofs.Ytmdnmknmniabeaa
open Go.RowKit Pw
set_option linter.unusedSimpArgs false
set_option linter.unusedVariables false

theorem zTb_sz : TbSz zTb := fun k hk => by simp [zTb]
def e9 : En := ⟨1, 3, true⟩
def t9 : Tb := setT zTb 9 e9
theorem e9_ok : setE zTb 9 e9 = 0 := by decide
theorem t9_get : getT t9 9 = e9 := by unfold t9; rw [setT_get e9_ok, if_pos rfl]
theorem t9_right : wrongT t9 = 0 := setT_right e9_ok
theorem t9_pages : (pagesL t9).length = 1 := by decide +kernel
theorem t9_find : (findL t9 1 3).length = 1 := by decide +kernel
theorem t9_guard : (getT (guardT t9) 9).w = false := by decide +kernel
theorem t9_sz : TbSz t9 := fun k hk => by
  have := halfE_len (wrongT_half t9_right k hk)
  omega
theorem t9_getc (ca : Array Value) (W : World) (h : TbR W ca t9) : Calls Try.prog 21 #[.agg ca, .int .i64 9] W fun r w' => r = .returned (.agg #[.int .i64 1, .int .i64 3, .bool true]) ∧ Below W.heap.size W w' := by
  have := tget_lit t9 ca 9 W h
  rw [t9_get] at this
  exact this
set_option maxHeartbeats 4000000 in
set_option maxRecDepth 100000 in
theorem talive_any (w : World) : Calls Try.prog 27 #[] w fun r w' => r = .returned (.bool true) ∧ Below w.heap.size w w' := by
  go_enter Try.func27, Try.ntmps27
  go_wp2_with fail
  refine (tset_any zTb #[.slice none 0 0, .slice none 0 0, .slice none 0 0, .slice none 0 0, .slice none 0 0, .slice none 0 0, .slice none 0 0, .slice none 0 0] 9 e9 w (zTb_O w 0).rd zTb_sz).mono ?_
  rintro r w1 ⟨ca, rfl, hO1, hb1⟩
  have hone1 := hO1.rd.one
  have hsz1 := hO1.sz
  rw [e9_ok]
  have hA1 : TbR w1 ca t9 := hO1.rd
  clear hO1
  go_wp2_with (refine wpList_stn rfl _ _ _ rfl ca rfl rfl (by rw [hsz1]; rfl) (by rw [hsz1]; exact tab_size) hone1 ?_)
  intro w2 hb2 ha2
  have hbel2 := below_next hb1 hb2
  have hA2 := hA1.below hb2
  clear hb1 hA1 hone1 hb2
  go_wp2_with (refine wpList_ldg _ _ rfl _ 0 rfl rfl _ ha2.rd _ Try.underlying24 tab_agg (by rw [Array.length_toList, hsz1]; exact tab_size) ?_)
  refine (t9_getc ca _ hA2).mono ?_
  rintro r w3 ⟨rfl, hb3⟩
  have hbel3 := below_next hbel2 hb3
  have hA3 := hA2.below hb3
  have ha3 := ha2.ext hb3
  have hf1 : ∀ W, (Instr.field 26 (.agg #[.int .i64 1, .int .i64 3, .bool true]) 1).run Try.prog W = .ok (.int .i64 3) W := fun W => by simp [Instr.field, go_sem]; rfl
  clear hbel2 hA2 ha2 hb3
  go_wp2_with (refine wpList_ldg _ _ rfl _ 0 rfl rfl _ ha3.rd _ Try.underlying24 tab_agg (by rw [Array.length_toList, hsz1]; exact tab_size) ?_)
  refine (tpages_any t9 ca _ hA3).mono ?_
  rintro r w4 ⟨v4, rfl, ho4, hb4⟩
  obtain ⟨a4, c4, rfl, _⟩ := ho4.rd
  rw [t9_pages]
  have hbel4 := below_next hbel3 hb4
  have hA4 := hA3.below hb4
  have ha4 := ha3.ext hb4
  clear hbel3 hA3 ha3 hb4 ho4 hf1
  go_wp2_with (refine wpList_ldg _ _ rfl _ 0 rfl rfl _ ha4.rd _ Try.underlying24 tab_agg (by rw [Array.length_toList, hsz1]; exact tab_size) ?_)
  refine (tfind_any t9 ca 1 3 _ hA4).mono ?_
  rintro r w5 ⟨v5, rfl, ho5, hb5⟩
  obtain ⟨a5, c5, rfl, _⟩ := ho5.rd
  rw [t9_find]
  have hbel5 := below_next hbel4 hb5
  have hA5 := hA4.below hb5
  have ha5 := ha4.ext hb5
  clear hbel4 hA4 ha4 hb5 ho5
  go_wp2_with (refine wpList_ldg _ _ rfl _ 0 rfl rfl _ ha5.rd _ Try.underlying24 tab_agg (by rw [Array.length_toList, hsz1]; exact tab_size) ?_)
  refine (tguard_any t9 ca _ hA5 t9_sz).mono ?_
  rintro r w6 ⟨cg, rfl, hO6, hb6⟩
  have hbel6 := below_next hbel5 hb6
  have hA6 := hA5.below hb6
  have hG6 := hO6.rd
  have ha6 := ha5.ext hb6
  clear hbel5 hA5 ha5 hb6 hO6
  go_wp2_with fail
  refine (tget_lit (guardT t9) cg 9 _ hG6).mono ?_
  rintro r w7 ⟨rfl, hb7⟩
  rw [t9_guard]
  have hbel7 := below_next hbel6 hb7
  have hA7 := hA6.below hb7
  have ha7 := ha6.ext hb7
  have hf2 : ∀ W a b, (Instr.field 26 (.agg #[.int .i64 a, .int .i64 b, .bool false]) 2).run Try.prog W = .ok (.bool false) W := fun W a b => by simp [Instr.field, go_sem]; rfl
  clear hbel6 hA6 ha6 hb7 hG6
  go_wp2_with (refine wpList_ldg _ _ rfl _ 0 rfl rfl _ ha7.rd _ Try.underlying24 tab_agg (by rw [Array.length_toList, hsz1]; exact tab_size) ?_)
  refine (twrong_any t9 ca _ hA7).mono ?_
  rintro r w8 ⟨rfl, hb8⟩
  rw [t9_right]
  have hbel8 := below_next hbel7 hb8
  clear hbel7 hA7 ha7 hb8
  go_wp2
  go_ret
  exact ⟨rfl, hbel8⟩
theorem one_toList {cs : Array Value} (h : cs.all (·.oneCell') = true) : ∀ u ∈ cs.toList, u.oneCell' = true := by
  intro u hu
  rw [← Array.all_toList, List.all_eq_true] at h
  exact h u hu
/-- A table by value, of the call's own. -/
def tabO (B : Nat) (t : Tb) : Rel := ⟨fun v w => ∃ cs, v = .agg cs ∧ TbO w B cs t, fun _ _ _ hb ⟨cs, h1, h2⟩ => ⟨cs, h1, h2.below hb⟩⟩
def setO (B : Nat) (E : Int) (T : Tb) : Rel := ⟨fun v w => ∃ cs, v = .tuple #[.agg cs, .int .i64 E] ∧ TbO w B cs T, fun _ _ _ hb ⟨cs, h1, h2⟩ => ⟨cs, h1, h2.below hb⟩⟩
/-- Operation k made a block, and a table lies there. -/
def storeY (k B : Nat) (t : Tb) : RelY := ⟨fun y w => ∃ g ca, y k = .pointer (some ⟨g, 0, none⟩) ∧ B ≤ g ∧ Blk w g ca 24 ∧ TbO w 0 ca t, [k],
  fun _ _ _ hb ⟨g, ca, h1, h2, h3, h4⟩ => ⟨g, ca, h1, h2, h3.ext hb, h4.below hb⟩, fun y y' w h ⟨g, ca, h1, h2, h3, h4⟩ => ⟨g, ca, by rw [← h k (List.mem_singleton.2 rfl)]; exact h1, h2, h3, h4⟩⟩
/-- What Set hands back. -/
def setR (E : Int) (T : Tb) : Rel := ⟨fun v w => ∃ cs, v = .tuple #[.agg cs, .int .i64 E] ∧ TbR w cs T, fun _ _ _ hb ⟨cs, h1, h2⟩ => ⟨cs, h1, h2.below hb⟩⟩
set_option maxHeartbeats 4000000 in
set_option maxRecDepth 100000 in
theorem table_sets (t : Tb) (cs : Array Value) (n : Int) (e : En) (other : Int) (w : World) (h : TbR w cs t) (hz : TbSz t) :
    Calls Try.prog 4 #[.agg cs, .int .i64 n, .agg (enC e), .int .i64 other] w fun r w' => r = .returned (.bool true) ∧ Below w.heap.size w w' := by
  go_enter Try.func4, Try.ntmps4
  go_upto_region 1 with (fail)
  refine abs2 (fun W => Code.wp _ _ _ _ W) fun w0 hb0 hx0 he0 hs0 => ?_
  clear hs0
  go_wp2_with fail
  refine (talive_any _).mono ?_
  rintro r w1 ⟨rfl, hb1⟩
  have hbel1 := below_next hb0 hb1
  have hx1 := hx0.ext hb1
  have he1 := he0.ext hb1
  clear hb0 hb1 hx0 he0
  go_wp2_with (first | (refine wpList_ldg _ _ rfl _ 0 rfl rfl _ hx1.rd _ Try.underlying24 tab_agg (by rw [Array.length_toList, h.sz]; exact tab_size) ?_) | (refine wpList_ldg _ _ rfl _ 0 rfl rfl _ he1.rd _ Try.underlying26 rfl entry_size ?_))
  refine (tset_any t cs n e _ (h.below hbel1) hz).mono ?_
  rintro r w2 ⟨ca, rfl, hO2, hb2⟩
  have hbel2 := below_next hbel1 hb2
  have hx2 := hx1.ext hb2
  have he2 := he1.ext hb2
  have hone2 := hO2.rd.one
  have hsz2 := hO2.sz
  clear hbel1 hx1 he1 hb2
  go_wp2_with (refine wpList_stn rfl _ _ _ rfl ca rfl rfl (by rw [hsz2]; rfl) (by rw [hsz2]; exact tab_size) hone2 ?_)
  intro w3 hb3 ha3
  have hbel3 := below_next hbel2 hb3
  have hx3 := hx2.ext hb3
  have he3 := he2.ext hb3
  have hA3 := hO2.rd.below hb3
  clear hbel2 hx2 he2 hO2 hb3 hone2
  by_cases h0 : setE t n e = 0
  · have H0 := Lib.hid h0
    have hright := Lib.hid (setT_right h0)
    have hgetn := Lib.hid ((setT_get h0 n).trans (if_pos rfl))
    have hback := Lib.hid (setT_back h0)
    have hTz : Hid (TbSz (setT t n e)) := Lib.hid (fun k hk => by
      have := halfE_len (wrongT_half hright.out k hk)
      omega)
    have hgo := Lib.hid (setT_get h0 other)
    rw [h0]
    clear h0
    go_upto_region 6 with (fail)
    generalize hT : setT t n e = T at hA3 hright hgetn hback hTz hgo
    clear hT
    by_cases ho : other = n
    · have hno : ((other : Int) != n) = false := by simp [ho]
      refine wp_grow 24 [isV (.agg ca), isV (.int .i64 0), isV (.bool false), isV (.bool false), isV (.agg ca), isV (.int .i64 n), isV (.agg (enC e)), isV (.agg (enC e)), isV (.bool false), isV (.bool false), isV (.bool false), isV (.int .i64 other), isV (.int .i64 n), isV (.bool false), isV (.bool false), isV (undef), isV (undef), isV (undef), isV (undef), isV (undef), isV (undef), isV (undef), isV (.bool false), isV (.bool false)] (by kernel_rfl) (by kernel_rfl) (by kernel_rfl) (by decide) _ rfl (by kernel_rfl) (all_cons ?_ (all_cons ?_ (all_cons ?_ (all_cons ?_ (all_cons ?_ (all_cons ?_ (all_cons ?_ (all_cons ?_ (all_cons ?_ (all_cons ?_ (all_cons ?_ (all_cons ?_ (all_cons ?_ (all_cons ?_ (all_cons ?_ (all_cons ?_ (all_cons ?_ (all_cons ?_ (all_cons ?_ (all_cons ?_ (all_cons ?_ (all_cons ?_ (all_cons ?_ (all_cons ?_ (all_nil))))))))))))))))))))))))) ?_
      · intro ρ y W hw hn hb hd
        have E9 : ρ (.tmp 9) = .pointer (some ⟨w2.heap.size, 0, none⟩) := (hn (.tmp 9) rfl).trans rfl
        refine asked_val (.agg ca) (want_free rfl) (run_load_rd rfl E9 (ha3.ext hb).rd Try.underlying24 tab_agg (by rw [Array.length_toList, hsz2]; exact tab_size)) rfl
      · intro ρ y W hw hn hb hd
        have E26 := hw 26 0 rfl
        have h0 : y 0 = .agg ca := hd 0 rfl
        have EF : ∀ f, ρ (.func f) = .func (.func f) #[] #[] := fun f => hn (.func f) trivial
        refine asked_call _ _ (want_free rfl) (run_call rfl (EF _) Try.func14 (by kernel_rfl) (by kernel_rfl) (by simp only [List.map_toArray, List.map_cons, List.map_nil, E26, h0, EF]; rfl)) ?_
        refine (twrong_any T ca W (hA3.below hb)).mono ?_
        rintro r w1 ⟨rfl, hb1⟩
        rw [hright.out]
        exact ⟨_, rfl, hb1, rfl⟩
      · intro ρ y W hw hn hb hd
        have E27 := hw 27 1 rfl
        have h1 : y 1 = .int .i64 0 := hd 1 rfl
        refine asked_val (.bool false) (want_free rfl) (run_bin rfl (E27.trans h1) (hn (.const _) trivial) (by simp [go_sem])) rfl
      · intro ρ y W hw hn hb hd
        have E28 := hw 28 2 rfl
        have h2 : y 2 = .bool false := hd 2 rfl
        refine asked_val (.bool false) (want_free rfl) (run_move (.inl rfl) (E28.trans h2)) rfl
      · intro ρ y W hw hn hb hd
        have E9 : ρ (.tmp 9) = .pointer (some ⟨w2.heap.size, 0, none⟩) := (hn (.tmp 9) rfl).trans rfl
        refine asked_val (.agg ca) (want_at 3 29 false false rfl rfl ((hw 29 3 rfl).trans (hd 3 rfl))) (run_load_rd rfl E9 (ha3.ext hb).rd Try.underlying24 tab_agg (by rw [Array.length_toList, hsz2]; exact tab_size)) rfl
      · intro ρ y W hw hn hb hd
        have E1 : ρ (.tmp 1) = .int .i64 n := (hn (.tmp 1) rfl).trans rfl
        refine asked_val (.int .i64 n) (want_at 3 29 false false rfl rfl ((hw 29 3 rfl).trans (hd 3 rfl))) (run_move (.inl rfl) E1) rfl
      · intro ρ y W hw hn hb hd
        have E30 := hw 30 4 rfl
        have h4 : y 4 = .agg ca := hd 4 rfl
        have E31 := hw 31 5 rfl
        have h5 : y 5 = .int .i64 n := hd 5 rfl
        have EF : ∀ f, ρ (.func f) = .func (.func f) #[] #[] := fun f => hn (.func f) trivial
        refine asked_call _ _ (want_at 3 29 false false rfl rfl ((hw 29 3 rfl).trans (hd 3 rfl))) (run_call rfl (EF _) Try.func21 (by kernel_rfl) (by kernel_rfl) (by simp only [List.map_toArray, List.map_cons, List.map_nil, E30, h4, E31, h5, EF]; rfl)) ?_
        refine (tget_any T ca n W (hA3.below hb)).mono ?_
        rintro r w1 ⟨rfl, hb1⟩
        rw [hgetn.out]
        exact ⟨_, rfl, hb1, rfl⟩
      · intro ρ y W hw hn hb hd
        have E6 : ρ (.tmp 6) = .pointer (some ⟨w.heap.size + 1, 0, none⟩) := (hn (.tmp 6) rfl).trans rfl
        refine asked_val (.agg (enC e)) (want_at 3 29 false false rfl rfl ((hw 29 3 rfl).trans (hd 3 rfl))) (run_load_blk rfl E6 (he3.ext hb) Try.underlying26 rfl entry_size) rfl
      · intro ρ y W hw hn hb hd
        have E32 := hw 32 6 rfl
        have h6 : y 6 = .agg (enC e) := hd 6 rfl
        have E33 := hw 33 7 rfl
        have h7 : y 7 = .agg (enC e) := hd 7 rfl
        refine asked_val (.bool false) (want_at 3 29 false false rfl rfl ((hw 29 3 rfl).trans (hd 3 rfl))) (run_bin rfl (E32.trans h6) (E33.trans h7) (by simp [go_sem, enC])) rfl
      · intro ρ y W hw hn hb hd
        have E29 := hw 29 3 rfl
        have h3 : y 3 = .bool false := hd 3 rfl
        have E34 := hw 34 8 rfl
        have h8 : y 8 = .bool false := hd 8 rfl
        refine asked_val (.bool false) (want_free rfl) (run_pick rfl (E29.trans h3) (by first | simpa using (E34.trans h8) | exact (hn (.const _) trivial).trans rfl)) rfl
      · intro ρ y W hw hn hb hd
        have E35 := hw 35 9 rfl
        have h9 : y 9 = .bool false := hd 9 rfl
        refine asked_val (.bool false) (want_free rfl) (run_move (.inl rfl) (E35.trans h9)) rfl
      · intro ρ y W hw hn hb hd
        have E3 : ρ (.tmp 3) = .int .i64 other := (hn (.tmp 3) rfl).trans rfl
        refine asked_val (.int .i64 other) (want_at 10 36 false false rfl rfl ((hw 36 10 rfl).trans (hd 10 rfl))) (run_move (.inl rfl) E3) rfl
      · intro ρ y W hw hn hb hd
        have E1 : ρ (.tmp 1) = .int .i64 n := (hn (.tmp 1) rfl).trans rfl
        refine asked_val (.int .i64 n) (want_at 10 36 false false rfl rfl ((hw 36 10 rfl).trans (hd 10 rfl))) (run_move (.inl rfl) E1) rfl
      · intro ρ y W hw hn hb hd
        have E37 := hw 37 11 rfl
        have h11 : y 11 = .int .i64 other := hd 11 rfl
        have E38 := hw 38 12 rfl
        have h12 : y 12 = .int .i64 n := hd 12 rfl
        refine asked_val (.bool false) (want_at 10 36 false false rfl rfl ((hw 36 10 rfl).trans (hd 10 rfl))) (run_bin rfl (E37.trans h11) (E38.trans h12) (by simp [go_sem, hno])) rfl
      · intro ρ y W hw hn hb hd
        have E39 := hw 39 13 rfl
        have h13 : y 13 = .bool false := hd 13 rfl
        refine asked_val (.bool false) (want_at 10 36 false false rfl rfl ((hw 36 10 rfl).trans (hd 10 rfl))) (run_move (.inl rfl) (E39.trans h13)) rfl
      · intro ρ y W hw hn hb hd
        exact asked_skip (want_at 14 40 false true rfl rfl ((hw 40 14 rfl).trans (hd 14 rfl))) rfl
      · intro ρ y W hw hn hb hd
        exact asked_skip (want_at 14 40 false true rfl rfl ((hw 40 14 rfl).trans (hd 14 rfl))) rfl
      · intro ρ y W hw hn hb hd
        exact asked_skip (want_at 14 40 false true rfl rfl ((hw 40 14 rfl).trans (hd 14 rfl))) rfl
      · intro ρ y W hw hn hb hd
        exact asked_skip (want_at 14 40 false true rfl rfl ((hw 40 14 rfl).trans (hd 14 rfl))) rfl
      · intro ρ y W hw hn hb hd
        exact asked_skip (want_at 14 40 false true rfl rfl ((hw 40 14 rfl).trans (hd 14 rfl))) rfl
      · intro ρ y W hw hn hb hd
        exact asked_skip (want_at 14 40 false true rfl rfl ((hw 40 14 rfl).trans (hd 14 rfl))) rfl
      · intro ρ y W hw hn hb hd
        exact asked_skip (want_at 14 40 false true rfl rfl ((hw 40 14 rfl).trans (hd 14 rfl))) rfl
      · intro ρ y W hw hn hb hd
        have E40 := hw 40 14 rfl
        have h14 : y 14 = .bool false := hd 14 rfl
        have E47 := hw 47 21 rfl
        have h21 : y 21 = undef := hd 21 rfl
        refine asked_val (.bool false) (want_at 10 36 false false rfl rfl ((hw 36 10 rfl).trans (hd 10 rfl))) (run_pick rfl (E40.trans h14) (by first | simpa using (hn (.const _) trivial) | exact (hn (.const _) trivial).trans rfl)) rfl
      · intro ρ y W hw hn hb hd
        have E36 := hw 36 10 rfl
        have h10 : y 10 = .bool false := hd 10 rfl
        have E48 := hw 48 22 rfl
        have h22 : y 22 = .bool false := hd 22 rfl
        refine asked_val (.bool false) (want_free rfl) (run_pick rfl (E36.trans h10) (by first | simpa using (E48.trans h22) | exact (hn (.const _) trivial).trans rfl)) rfl
      intro y WA hbWA hRWA
      have hy0 : y 0 = .agg ca := hRWA 0 (by decide)
      have hy1 : y 1 = .int .i64 0 := hRWA 1 (by decide)
      have hy2 : y 2 = .bool false := hRWA 2 (by decide)
      have hy3 : y 3 = .bool false := hRWA 3 (by decide)
      have hy4 : y 4 = .agg ca := hRWA 4 (by decide)
      have hy5 : y 5 = .int .i64 n := hRWA 5 (by decide)
      have hy6 : y 6 = .agg (enC e) := hRWA 6 (by decide)
      have hy7 : y 7 = .agg (enC e) := hRWA 7 (by decide)
      have hy8 : y 8 = .bool false := hRWA 8 (by decide)
      have hy9 : y 9 = .bool false := hRWA 9 (by decide)
      have hy10 : y 10 = .bool false := hRWA 10 (by decide)
      have hy11 : y 11 = .int .i64 other := hRWA 11 (by decide)
      have hy12 : y 12 = .int .i64 n := hRWA 12 (by decide)
      have hy13 : y 13 = .bool false := hRWA 13 (by decide)
      have hy14 : y 14 = .bool false := hRWA 14 (by decide)
      have hy15 : y 15 = undef := hRWA 15 (by decide)
      have hy16 : y 16 = undef := hRWA 16 (by decide)
      have hy17 : y 17 = undef := hRWA 17 (by decide)
      have hy18 : y 18 = undef := hRWA 18 (by decide)
      have hy19 : y 19 = undef := hRWA 19 (by decide)
      have hy20 : y 20 = undef := hRWA 20 (by decide)
      have hy21 : y 21 = undef := hRWA 21 (by decide)
      have hy22 : y 22 = .bool false := hRWA 22 (by decide)
      have hy23 : y 23 = .bool false := hRWA 23 (by decide)
      clear hRWA
      simp only [lay, Nat.reduceAdd, Nat.reduceLT, decide_true, decide_false, if_true, Bool.false_eq_true, if_false, List.setIfInBounds_toArray, List.set_cons_zero, List.set_cons_succ, List.drop_succ_cons, List.drop_zero, List.drop_nil, hy0, hy1, hy2, hy3, hy4, hy5, hy6, hy7, hy8, hy9, hy10, hy11, hy12, hy13, hy14, hy15, hy16, hy17, hy18, hy19, hy20, hy21, hy22, hy23]
      clear hy0 hy1 hy2 hy3 hy4 hy5 hy6 hy7 hy8 hy9 hy10 hy11 hy12 hy13 hy14 hy15 hy16 hy17 hy18 hy19 hy20 hy21 hy22 hy23
      have hbelA := below_next hbel3 hbWA
      have hxA := hx3.ext hbWA
      have haA := ha3.ext hbWA
      have hTA := hA3.below hbWA
      clear hbel3 hx3 he3 ha3 hA3 hbWA
      go_upto_region 8 with (fail)
      have hhz := hTz.out
      refine wp_growY 12 [ofR 0 (isV (.agg ca)), ofR 1 (isV (.int .i64 n)), ofR 2 (isV (.agg cs)), ofR 3 (isV (.int .i64 n)), ofR 4 (isV (.agg (enC (getT t n)))), ofR 5 ((setO 0 0 t)), ofR 6 ((setO 0 0 t)), ofR 7 ((tabO 0 t)), ofR 8 (isV (.int .i64 0)), ofR 9 ((allocR WA.heap.size 24 8)), (storeY 9 WA.heap.size t), ofR 11 (isV (.int .i64 0))] (fun W => Below WA.heap.size WA W) (fun _ _ h h2 => below_next h2 h) (Below.refl _ _) (by kernel_rfl) _ rfl (by kernel_rfl) (by kernel_rfl) (by decide) (by kernel_rfl) _ rfl (by kernel_rfl) (all_cons ?_ (all_cons ?_ (all_cons ?_ (all_cons ?_ (all_cons ?_ (all_cons ?_ (all_cons ?_ (all_cons ?_ (all_cons ?_ (all_cons ?_ (all_cons ?_ (all_cons ?_ (all_nil))))))))))))) ?_
      · intro ρ y W hw hn hb hd
        refine askY (fun _ _ h h2 => below_next h2 h) hb (isV (.agg ca)) (fun _ _ h => h) ?_
        have E9 : ρ (.tmp 9) = .pointer (some ⟨w2.heap.size, 0, none⟩) := (hn (.tmp 9) rfl).trans rfl
        refine asked_val (.agg ca) (want_free rfl) (run_load_rd rfl E9 (haA.ext hb).rd Try.underlying24 tab_agg (by rw [Array.length_toList, hsz2]; exact tab_size)) rfl
      · intro ρ y W hw hn hb hd
        refine askY (fun _ _ h h2 => below_next h2 h) hb (isV (.int .i64 n)) (fun _ _ h => h) ?_
        have E1 : ρ (.tmp 1) = .int .i64 n := (hn (.tmp 1) rfl).trans rfl
        refine asked_val (.int .i64 n) (want_free rfl) (run_move (.inl rfl) E1) rfl
      · intro ρ y W hw hn hb hd
        refine askY (fun _ _ h h2 => below_next h2 h) hb (isV (.agg cs)) (fun _ _ h => h) ?_
        have E4 : ρ (.tmp 4) = .pointer (some ⟨w.heap.size, 0, none⟩) := (hn (.tmp 4) rfl).trans rfl
        refine asked_val (.agg cs) (want_free rfl) (run_load_rd rfl E4 (hxA.ext hb).rd Try.underlying24 tab_agg (by rw [Array.length_toList, h.sz]; exact tab_size)) rfl
      · intro ρ y W hw hn hb hd
        refine askY (fun _ _ h h2 => below_next h2 h) hb (isV (.int .i64 n)) (fun _ _ h => h) ?_
        have E1 : ρ (.tmp 1) = .int .i64 n := (hn (.tmp 1) rfl).trans rfl
        refine asked_val (.int .i64 n) (want_free rfl) (run_move (.inl rfl) E1) rfl
      · intro ρ y W hw hn hb hd
        refine askY (fun _ _ h h2 => below_next h2 h) hb (isV (.agg (enC (getT t n)))) (fun _ _ h => h) ?_
        have E53 := hw 53 2 rfl
        have h2 : y 2 = .agg cs := hd 2 rfl
        have E54 := hw 54 3 rfl
        have h3 : y 3 = .int .i64 n := hd 3 rfl
        have EF : ∀ f, ρ (.func f) = .func (.func f) #[] #[] := fun f => hn (.func f) trivial
        refine asked_call _ _ (want_free rfl) (run_call rfl (EF _) Try.func21 (by kernel_rfl) (by kernel_rfl) (by simp only [List.map_toArray, List.map_cons, List.map_nil, E53, h2, E54, h3, EF]; rfl)) ?_
        refine (tget_any t cs n W (h.below (below_next hbelA hb))).mono ?_
        rintro r w1 ⟨rfl, hb1⟩
        exact ⟨_, rfl, hb1, rfl⟩
      · intro ρ y W hw hn hb hd
        refine askY (fun _ _ h h2 => below_next h2 h) hb ((setO 0 0 t)) (fun _ _ h => h) ?_
        have E51 := hw 51 0 rfl
        have h0 : y 0 = .agg ca := hd 0 rfl
        have E52 := hw 52 1 rfl
        have h1 : y 1 = .int .i64 n := hd 1 rfl
        have E55 := hw 55 4 rfl
        have h4 : y 4 = .agg (enC (getT t n)) := hd 4 rfl
        have EF : ∀ f, ρ (.func f) = .func (.func f) #[] #[] := fun f => hn (.func f) trivial
        refine asked_call _ _ (want_free rfl) (run_call rfl (EF _) Try.func18 (by kernel_rfl) (by kernel_rfl) (by simp only [List.map_toArray, List.map_cons, List.map_nil, E51, h0, E52, h1, E55, h4, EF]; rfl)) ?_
        refine (tset_any T ca n (getT t n) W (hTA.below hb) hTz.out).mono ?_
        rintro r w1 ⟨cc, rfl, hO, hb1⟩
        rw [hback.out.1]
        rw [hback.out.2] at hO
        exact ⟨_, rfl, hb1, ⟨_, rfl, hO.mono (Nat.zero_le _)⟩⟩
      · intro ρ y W hw hn hb hd
        refine askY (fun _ _ h h2 => below_next h2 h) hb ((setO 0 0 t)) (fun _ _ h => h) ?_
        have E56 := hw 56 5 rfl
        have h5 := hd 5 rfl
        refine asked_val _ (want_free rfl) (run_move (.inl rfl) E56) ?_
        exact h5
      · intro ρ y W hw hn hb hd
        refine askY (fun _ _ h h2 => below_next h2 h) hb ((tabO 0 t)) (fun _ _ h => h) ?_
        have E50 := hw 50 6 rfl
        have h6 := hd 6 rfl
        obtain ⟨cc, e6, ho6⟩ := h6
        refine asked_val (.agg cc) (want_free rfl) (by simp [execOp, go_sem, stripO, E50, e6]) ?_
        exact ⟨_, rfl, ho6⟩
      · intro ρ y W hw hn hb hd
        refine askY (fun _ _ h h2 => below_next h2 h) hb (isV (.int .i64 0)) (fun _ _ h => h) ?_
        have E50 := hw 50 6 rfl
        have h6 := hd 6 rfl
        obtain ⟨cc, e6, ho6⟩ := h6
        refine asked_val (.int .i64 0) (want_free rfl) (by simp [execOp, go_sem, stripO, E50, e6]) rfl
      · intro ρ y W hw hn hb hd
        refine askY (fun _ _ h h2 => below_next h2 h) hb ((allocR WA.heap.size 24 8)) (fun _ _ h => h) ?_
        refine asked_new (.pointer (some ⟨W.heap.size, 0, none⟩)) (want_free rfl) (by simp [execOp, go_sem, stripO]) ((Below.refl _ _).alloc (Nat.le_refl _) (.cells #[.slice none 0 0, .slice none 0 0, .slice none 0 0, .slice none 0 0, .slice none 0 0, .slice none 0 0, .slice none 0 0, .slice none 0 0] 24)) ?_
        exact ⟨_, _, rfl, hb.size, Blk.new _ _ _, rfl⟩
      · intro ρ y W hw hn hb hd
        have E11 := hw 11 9 rfl
        have h9 := hd 9 rfl
        have E57 := hw 57 7 rfl
        have h7 := hd 7 rfl
        obtain ⟨cc, e7, ho7⟩ := h7
        obtain ⟨g, cur, e9, hg9, hb9, hs9⟩ := h9
        have hsz7 := ho7.sz
        refine askY_store (want_free rfl) _ _ _ rfl g 0 (.agg cc) cc.toList (E11.trans e9) (E57.trans e7) rfl cur _ hb9 (by rw [Array.length_toList, hs9, hsz7]; exact Nat.le_refl _) (by rw [Array.length_toList, hsz7]; exact tab_size) (one_toList ho7.rd.one) ?_
        intro w1 hw1 hgr
        rw [putAt_whole cur cc (by rw [hs9, hsz7])] at hw1
        refine ⟨hb.grown hgr hb.size (fun k hk => by cases hk; exact hg9), ⟨g, cc, e9, hg9, hw1, ho7.keep hb9 (by decide) hgr⟩, ?_⟩
        intro k hk hne
        match k, hk, hne with
        | 0, _, _ => exact fun h => h
        | 1, _, _ => exact fun h => h
        | 2, _, _ => exact fun h => h
        | 3, _, _ => exact fun h => h
        | 4, _, _ => exact fun h => h
        | 5, _, _ => exact fun ⟨c, q1, q2⟩ => ⟨c, q1, q2.keep hb9 (by decide) hgr⟩
        | 6, _, _ => exact fun ⟨c, q1, q2⟩ => ⟨c, q1, q2.keep hb9 (by decide) hgr⟩
        | 7, _, _ => exact fun ⟨c, q1, q2⟩ => ⟨c, q1, q2.keep hb9 (by decide) hgr⟩
        | 8, _, _ => exact fun h => h
        | 9, _, _ => exact fun q => allocR_keep q hw1 (fun _ => hsz7) ⟨_, hb9⟩ hgr
        | 10, _, h => exact absurd rfl h
        | 11, _, _ => exact fun h => h
        | n + 12, h, _ => exact absurd h (by omega)
      · intro ρ y W hw hn hb hd
        refine askY (fun _ _ h h2 => below_next h2 h) hb (isV (.int .i64 0)) (fun _ _ h => h) ?_
        have E58 := hw 58 8 rfl
        have h8 : y 8 = .int .i64 0 := hd 8 rfl
        refine asked_val (.int .i64 0) (want_free rfl) (run_move (.inr rfl) (E58.trans h8)) rfl
      intro y WB hbWB hRWB
      replace hbWB : Below WA.heap.size WA WB := hbWB
      have hy0 : y 0 = .agg ca := hRWB 0 (by decide)
      have hy1 : y 1 = .int .i64 n := hRWB 1 (by decide)
      have hy2 : y 2 = .agg cs := hRWB 2 (by decide)
      have hy3 : y 3 = .int .i64 n := hRWB 3 (by decide)
      have hy4 : y 4 = .agg (enC (getT t n)) := hRWB 4 (by decide)
      have hy8 : y 8 = .int .i64 0 := hRWB 8 (by decide)
      have hy11 : y 11 = .int .i64 0 := hRWB 11 (by decide)
      have hy5 : ((setO 0 0 t)).r (y 5) WB := hRWB 5 (by decide)
      have hy6 : ((setO 0 0 t)).r (y 6) WB := hRWB 6 (by decide)
      have hy7 : ((tabO 0 t)).r (y 7) WB := hRWB 7 (by decide)
      have hy9 : ((allocR WA.heap.size 24 8)).r (y 9) WB := hRWB 9 (by decide)
      have hy10 := hRWB 10 (by decide)
      clear hRWB
      simp only [lay, strip, stripO, List.map_cons, List.map_nil, Nat.reduceAdd, Nat.reduceLT, decide_true, decide_false, if_true, Bool.false_eq_true, if_false, List.setIfInBounds_toArray, List.set_cons_zero, List.set_cons_succ, List.drop_succ_cons, List.drop_zero, List.drop_nil, hy0, hy1, hy2, hy3, hy4, hy8, hy11]
      clear hy0 hy1 hy2 hy3 hy4 hy8 hy11
      clear hy5 hy6 hy7 hy9
      obtain ⟨g, cc, e9, hg9, hbg, hOg⟩ := hy10
      have hbelB := below_next hbelA hbWB
      have hxB := hxA.ext hbWB
      have hszc := hOg.sz
      have hTg := hOg.rd
      clear hbelA hxA haA hTA hbWB hOg
      go_wp2_with (first | (refine wpList_ldg _ _ rfl g 0 e9 rfl _ hbg.rd _ Try.underlying24 tab_agg (by rw [Array.length_toList, hszc]; exact tab_size) ?_) | (refine wpList_ldg _ _ rfl _ 0 rfl rfl _ hxB.rd _ Try.underlying24 tab_agg (by rw [Array.length_toList, h.sz]; exact tab_size) ?_))
      refine (tsame_any t t cc cs _ hTg (h.below hbelB)).mono ?_
      rintro r wE ⟨rfl, hbE⟩
      rw [sameT_self]
      go_wp2
      go_ret
      exact ⟨rfl, below_next hbelB hbE⟩
    · have hno : ((other : Int) != n) = true := by simp [ho]
      have hgo2 := Lib.hid (hgo.out.trans (if_neg ho))
      refine wp_grow 24 [isV (.agg ca), isV (.int .i64 0), isV (.bool false), isV (.bool false), isV (.agg ca), isV (.int .i64 n), isV (.agg (enC e)), isV (.agg (enC e)), isV (.bool false), isV (.bool false), isV (.bool false), isV (.int .i64 other), isV (.int .i64 n), isV (.bool true), isV (.bool true), isV (.agg ca), isV (.int .i64 other), isV (.agg (enC (getT t other))), isV (.agg cs), isV (.int .i64 other), isV (.agg (enC (getT t other))), isV (.bool false), isV (.bool false), isV (.bool false)] (by kernel_rfl) (by kernel_rfl) (by kernel_rfl) (by decide) _ rfl (by kernel_rfl) (all_cons ?_ (all_cons ?_ (all_cons ?_ (all_cons ?_ (all_cons ?_ (all_cons ?_ (all_cons ?_ (all_cons ?_ (all_cons ?_ (all_cons ?_ (all_cons ?_ (all_cons ?_ (all_cons ?_ (all_cons ?_ (all_cons ?_ (all_cons ?_ (all_cons ?_ (all_cons ?_ (all_cons ?_ (all_cons ?_ (all_cons ?_ (all_cons ?_ (all_cons ?_ (all_cons ?_ (all_nil))))))))))))))))))))))))) ?_
      · intro ρ y W hw hn hb hd
        have E9 : ρ (.tmp 9) = .pointer (some ⟨w2.heap.size, 0, none⟩) := (hn (.tmp 9) rfl).trans rfl
        refine asked_val (.agg ca) (want_free rfl) (run_load_rd rfl E9 (ha3.ext hb).rd Try.underlying24 tab_agg (by rw [Array.length_toList, hsz2]; exact tab_size)) rfl
      · intro ρ y W hw hn hb hd
        have E26 := hw 26 0 rfl
        have h0 : y 0 = .agg ca := hd 0 rfl
        have EF : ∀ f, ρ (.func f) = .func (.func f) #[] #[] := fun f => hn (.func f) trivial
        refine asked_call _ _ (want_free rfl) (run_call rfl (EF _) Try.func14 (by kernel_rfl) (by kernel_rfl) (by simp only [List.map_toArray, List.map_cons, List.map_nil, E26, h0, EF]; rfl)) ?_
        refine (twrong_any T ca W (hA3.below hb)).mono ?_
        rintro r w1 ⟨rfl, hb1⟩
        rw [hright.out]
        exact ⟨_, rfl, hb1, rfl⟩
      · intro ρ y W hw hn hb hd
        have E27 := hw 27 1 rfl
        have h1 : y 1 = .int .i64 0 := hd 1 rfl
        refine asked_val (.bool false) (want_free rfl) (run_bin rfl (E27.trans h1) (hn (.const _) trivial) (by simp [go_sem])) rfl
      · intro ρ y W hw hn hb hd
        have E28 := hw 28 2 rfl
        have h2 : y 2 = .bool false := hd 2 rfl
        refine asked_val (.bool false) (want_free rfl) (run_move (.inl rfl) (E28.trans h2)) rfl
      · intro ρ y W hw hn hb hd
        have E9 : ρ (.tmp 9) = .pointer (some ⟨w2.heap.size, 0, none⟩) := (hn (.tmp 9) rfl).trans rfl
        refine asked_val (.agg ca) (want_at 3 29 false false rfl rfl ((hw 29 3 rfl).trans (hd 3 rfl))) (run_load_rd rfl E9 (ha3.ext hb).rd Try.underlying24 tab_agg (by rw [Array.length_toList, hsz2]; exact tab_size)) rfl
      · intro ρ y W hw hn hb hd
        have E1 : ρ (.tmp 1) = .int .i64 n := (hn (.tmp 1) rfl).trans rfl
        refine asked_val (.int .i64 n) (want_at 3 29 false false rfl rfl ((hw 29 3 rfl).trans (hd 3 rfl))) (run_move (.inl rfl) E1) rfl
      · intro ρ y W hw hn hb hd
        have E30 := hw 30 4 rfl
        have h4 : y 4 = .agg ca := hd 4 rfl
        have E31 := hw 31 5 rfl
        have h5 : y 5 = .int .i64 n := hd 5 rfl
        have EF : ∀ f, ρ (.func f) = .func (.func f) #[] #[] := fun f => hn (.func f) trivial
        refine asked_call _ _ (want_at 3 29 false false rfl rfl ((hw 29 3 rfl).trans (hd 3 rfl))) (run_call rfl (EF _) Try.func21 (by kernel_rfl) (by kernel_rfl) (by simp only [List.map_toArray, List.map_cons, List.map_nil, E30, h4, E31, h5, EF]; rfl)) ?_
        refine (tget_any T ca n W (hA3.below hb)).mono ?_
        rintro r w1 ⟨rfl, hb1⟩
        rw [hgetn.out]
        exact ⟨_, rfl, hb1, rfl⟩
      · intro ρ y W hw hn hb hd
        have E6 : ρ (.tmp 6) = .pointer (some ⟨w.heap.size + 1, 0, none⟩) := (hn (.tmp 6) rfl).trans rfl
        refine asked_val (.agg (enC e)) (want_at 3 29 false false rfl rfl ((hw 29 3 rfl).trans (hd 3 rfl))) (run_load_blk rfl E6 (he3.ext hb) Try.underlying26 rfl entry_size) rfl
      · intro ρ y W hw hn hb hd
        have E32 := hw 32 6 rfl
        have h6 : y 6 = .agg (enC e) := hd 6 rfl
        have E33 := hw 33 7 rfl
        have h7 : y 7 = .agg (enC e) := hd 7 rfl
        refine asked_val (.bool false) (want_at 3 29 false false rfl rfl ((hw 29 3 rfl).trans (hd 3 rfl))) (run_bin rfl (E32.trans h6) (E33.trans h7) (by simp [go_sem, enC])) rfl
      · intro ρ y W hw hn hb hd
        have E29 := hw 29 3 rfl
        have h3 : y 3 = .bool false := hd 3 rfl
        have E34 := hw 34 8 rfl
        have h8 : y 8 = .bool false := hd 8 rfl
        refine asked_val (.bool false) (want_free rfl) (run_pick rfl (E29.trans h3) (by first | simpa using (E34.trans h8) | exact (hn (.const _) trivial).trans rfl)) rfl
      · intro ρ y W hw hn hb hd
        have E35 := hw 35 9 rfl
        have h9 : y 9 = .bool false := hd 9 rfl
        refine asked_val (.bool false) (want_free rfl) (run_move (.inl rfl) (E35.trans h9)) rfl
      · intro ρ y W hw hn hb hd
        have E3 : ρ (.tmp 3) = .int .i64 other := (hn (.tmp 3) rfl).trans rfl
        refine asked_val (.int .i64 other) (want_at 10 36 false false rfl rfl ((hw 36 10 rfl).trans (hd 10 rfl))) (run_move (.inl rfl) E3) rfl
      · intro ρ y W hw hn hb hd
        have E1 : ρ (.tmp 1) = .int .i64 n := (hn (.tmp 1) rfl).trans rfl
        refine asked_val (.int .i64 n) (want_at 10 36 false false rfl rfl ((hw 36 10 rfl).trans (hd 10 rfl))) (run_move (.inl rfl) E1) rfl
      · intro ρ y W hw hn hb hd
        have E37 := hw 37 11 rfl
        have h11 : y 11 = .int .i64 other := hd 11 rfl
        have E38 := hw 38 12 rfl
        have h12 : y 12 = .int .i64 n := hd 12 rfl
        refine asked_val (.bool true) (want_at 10 36 false false rfl rfl ((hw 36 10 rfl).trans (hd 10 rfl))) (run_bin rfl (E37.trans h11) (E38.trans h12) (by simp [go_sem, hno])) rfl
      · intro ρ y W hw hn hb hd
        have E39 := hw 39 13 rfl
        have h13 : y 13 = .bool true := hd 13 rfl
        refine asked_val (.bool true) (want_at 10 36 false false rfl rfl ((hw 36 10 rfl).trans (hd 10 rfl))) (run_move (.inl rfl) (E39.trans h13)) rfl
      · intro ρ y W hw hn hb hd
        have E9 : ρ (.tmp 9) = .pointer (some ⟨w2.heap.size, 0, none⟩) := (hn (.tmp 9) rfl).trans rfl
        refine asked_val (.agg ca) (want_at 14 40 true true rfl rfl ((hw 40 14 rfl).trans (hd 14 rfl))) (run_load_rd rfl E9 (ha3.ext hb).rd Try.underlying24 tab_agg (by rw [Array.length_toList, hsz2]; exact tab_size)) rfl
      · intro ρ y W hw hn hb hd
        have E3 : ρ (.tmp 3) = .int .i64 other := (hn (.tmp 3) rfl).trans rfl
        refine asked_val (.int .i64 other) (want_at 14 40 true true rfl rfl ((hw 40 14 rfl).trans (hd 14 rfl))) (run_move (.inl rfl) E3) rfl
      · intro ρ y W hw hn hb hd
        have E41 := hw 41 15 rfl
        have h15 : y 15 = .agg ca := hd 15 rfl
        have E42 := hw 42 16 rfl
        have h16 : y 16 = .int .i64 other := hd 16 rfl
        have EF : ∀ f, ρ (.func f) = .func (.func f) #[] #[] := fun f => hn (.func f) trivial
        refine asked_call _ _ (want_at 14 40 true true rfl rfl ((hw 40 14 rfl).trans (hd 14 rfl))) (run_call rfl (EF _) Try.func21 (by kernel_rfl) (by kernel_rfl) (by simp only [List.map_toArray, List.map_cons, List.map_nil, E41, h15, E42, h16, EF]; rfl)) ?_
        refine (tget_any T ca other W (hA3.below hb)).mono ?_
        rintro r w1 ⟨rfl, hb1⟩
        rw [hgo2.out]
        exact ⟨_, rfl, hb1, rfl⟩
      · intro ρ y W hw hn hb hd
        have E4 : ρ (.tmp 4) = .pointer (some ⟨w.heap.size, 0, none⟩) := (hn (.tmp 4) rfl).trans rfl
        refine asked_val (.agg cs) (want_at 14 40 true true rfl rfl ((hw 40 14 rfl).trans (hd 14 rfl))) (run_load_rd rfl E4 (hx3.ext hb).rd Try.underlying24 tab_agg (by rw [Array.length_toList, h.sz]; exact tab_size)) rfl
      · intro ρ y W hw hn hb hd
        have E3 : ρ (.tmp 3) = .int .i64 other := (hn (.tmp 3) rfl).trans rfl
        refine asked_val (.int .i64 other) (want_at 14 40 true true rfl rfl ((hw 40 14 rfl).trans (hd 14 rfl))) (run_move (.inl rfl) E3) rfl
      · intro ρ y W hw hn hb hd
        have E44 := hw 44 18 rfl
        have h18 : y 18 = .agg cs := hd 18 rfl
        have E45 := hw 45 19 rfl
        have h19 : y 19 = .int .i64 other := hd 19 rfl
        have EF : ∀ f, ρ (.func f) = .func (.func f) #[] #[] := fun f => hn (.func f) trivial
        refine asked_call _ _ (want_at 14 40 true true rfl rfl ((hw 40 14 rfl).trans (hd 14 rfl))) (run_call rfl (EF _) Try.func21 (by kernel_rfl) (by kernel_rfl) (by simp only [List.map_toArray, List.map_cons, List.map_nil, E44, h18, E45, h19, EF]; rfl)) ?_
        refine (tget_any t cs other W (h.below (below_next hbel3 hb))).mono ?_
        rintro r w1 ⟨rfl, hb1⟩
        exact ⟨_, rfl, hb1, rfl⟩
      · intro ρ y W hw hn hb hd
        have E43 := hw 43 17 rfl
        have h17 : y 17 = .agg (enC (getT t other)) := hd 17 rfl
        have E46 := hw 46 20 rfl
        have h20 : y 20 = .agg (enC (getT t other)) := hd 20 rfl
        refine asked_val (.bool false) (want_at 14 40 true true rfl rfl ((hw 40 14 rfl).trans (hd 14 rfl))) (run_bin rfl (E43.trans h17) (E46.trans h20) (by simp [go_sem, enC])) rfl
      · intro ρ y W hw hn hb hd
        have E40 := hw 40 14 rfl
        have h14 : y 14 = .bool true := hd 14 rfl
        have E47 := hw 47 21 rfl
        have h21 : y 21 = .bool false := hd 21 rfl
        refine asked_val (.bool false) (want_at 10 36 false false rfl rfl ((hw 36 10 rfl).trans (hd 10 rfl))) (run_pick rfl (E40.trans h14) (by first | simpa using (E47.trans h21) | exact (hn (.const _) trivial).trans rfl)) rfl
      · intro ρ y W hw hn hb hd
        have E36 := hw 36 10 rfl
        have h10 : y 10 = .bool false := hd 10 rfl
        have E48 := hw 48 22 rfl
        have h22 : y 22 = .bool false := hd 22 rfl
        refine asked_val (.bool false) (want_free rfl) (run_pick rfl (E36.trans h10) (by first | simpa using (E48.trans h22) | exact (hn (.const _) trivial).trans rfl)) rfl
      intro y WA hbWA hRWA
      have hy0 : y 0 = .agg ca := hRWA 0 (by decide)
      have hy1 : y 1 = .int .i64 0 := hRWA 1 (by decide)
      have hy2 : y 2 = .bool false := hRWA 2 (by decide)
      have hy3 : y 3 = .bool false := hRWA 3 (by decide)
      have hy4 : y 4 = .agg ca := hRWA 4 (by decide)
      have hy5 : y 5 = .int .i64 n := hRWA 5 (by decide)
      have hy6 : y 6 = .agg (enC e) := hRWA 6 (by decide)
      have hy7 : y 7 = .agg (enC e) := hRWA 7 (by decide)
      have hy8 : y 8 = .bool false := hRWA 8 (by decide)
      have hy9 : y 9 = .bool false := hRWA 9 (by decide)
      have hy10 : y 10 = .bool false := hRWA 10 (by decide)
      have hy11 : y 11 = .int .i64 other := hRWA 11 (by decide)
      have hy12 : y 12 = .int .i64 n := hRWA 12 (by decide)
      have hy13 : y 13 = .bool true := hRWA 13 (by decide)
      have hy14 : y 14 = .bool true := hRWA 14 (by decide)
      have hy15 : y 15 = .agg ca := hRWA 15 (by decide)
      have hy16 : y 16 = .int .i64 other := hRWA 16 (by decide)
      have hy17 : y 17 = .agg (enC (getT t other)) := hRWA 17 (by decide)
      have hy18 : y 18 = .agg cs := hRWA 18 (by decide)
      have hy19 : y 19 = .int .i64 other := hRWA 19 (by decide)
      have hy20 : y 20 = .agg (enC (getT t other)) := hRWA 20 (by decide)
      have hy21 : y 21 = .bool false := hRWA 21 (by decide)
      have hy22 : y 22 = .bool false := hRWA 22 (by decide)
      have hy23 : y 23 = .bool false := hRWA 23 (by decide)
      clear hRWA
      simp only [lay, Nat.reduceAdd, Nat.reduceLT, decide_true, decide_false, if_true, Bool.false_eq_true, if_false, List.setIfInBounds_toArray, List.set_cons_zero, List.set_cons_succ, List.drop_succ_cons, List.drop_zero, List.drop_nil, hy0, hy1, hy2, hy3, hy4, hy5, hy6, hy7, hy8, hy9, hy10, hy11, hy12, hy13, hy14, hy15, hy16, hy17, hy18, hy19, hy20, hy21, hy22, hy23]
      clear hy0 hy1 hy2 hy3 hy4 hy5 hy6 hy7 hy8 hy9 hy10 hy11 hy12 hy13 hy14 hy15 hy16 hy17 hy18 hy19 hy20 hy21 hy22 hy23
      have hbelA := below_next hbel3 hbWA
      have hxA := hx3.ext hbWA
      have haA := ha3.ext hbWA
      have hTA := hA3.below hbWA
      clear hbel3 hx3 he3 ha3 hA3 hbWA
      go_upto_region 8 with (fail)
      have hhz := hTz.out
      refine wp_growY 12 [ofR 0 (isV (.agg ca)), ofR 1 (isV (.int .i64 n)), ofR 2 (isV (.agg cs)), ofR 3 (isV (.int .i64 n)), ofR 4 (isV (.agg (enC (getT t n)))), ofR 5 ((setO 0 0 t)), ofR 6 ((setO 0 0 t)), ofR 7 ((tabO 0 t)), ofR 8 (isV (.int .i64 0)), ofR 9 ((allocR WA.heap.size 24 8)), (storeY 9 WA.heap.size t), ofR 11 (isV (.int .i64 0))] (fun W => Below WA.heap.size WA W) (fun _ _ h h2 => below_next h2 h) (Below.refl _ _) (by kernel_rfl) _ rfl (by kernel_rfl) (by kernel_rfl) (by decide) (by kernel_rfl) _ rfl (by kernel_rfl) (all_cons ?_ (all_cons ?_ (all_cons ?_ (all_cons ?_ (all_cons ?_ (all_cons ?_ (all_cons ?_ (all_cons ?_ (all_cons ?_ (all_cons ?_ (all_cons ?_ (all_cons ?_ (all_nil))))))))))))) ?_
      · intro ρ y W hw hn hb hd
        refine askY (fun _ _ h h2 => below_next h2 h) hb (isV (.agg ca)) (fun _ _ h => h) ?_
        have E9 : ρ (.tmp 9) = .pointer (some ⟨w2.heap.size, 0, none⟩) := (hn (.tmp 9) rfl).trans rfl
        refine asked_val (.agg ca) (want_free rfl) (run_load_rd rfl E9 (haA.ext hb).rd Try.underlying24 tab_agg (by rw [Array.length_toList, hsz2]; exact tab_size)) rfl
      · intro ρ y W hw hn hb hd
        refine askY (fun _ _ h h2 => below_next h2 h) hb (isV (.int .i64 n)) (fun _ _ h => h) ?_
        have E1 : ρ (.tmp 1) = .int .i64 n := (hn (.tmp 1) rfl).trans rfl
        refine asked_val (.int .i64 n) (want_free rfl) (run_move (.inl rfl) E1) rfl
      · intro ρ y W hw hn hb hd
        refine askY (fun _ _ h h2 => below_next h2 h) hb (isV (.agg cs)) (fun _ _ h => h) ?_
        have E4 : ρ (.tmp 4) = .pointer (some ⟨w.heap.size, 0, none⟩) := (hn (.tmp 4) rfl).trans rfl
        refine asked_val (.agg cs) (want_free rfl) (run_load_rd rfl E4 (hxA.ext hb).rd Try.underlying24 tab_agg (by rw [Array.length_toList, h.sz]; exact tab_size)) rfl
      · intro ρ y W hw hn hb hd
        refine askY (fun _ _ h h2 => below_next h2 h) hb (isV (.int .i64 n)) (fun _ _ h => h) ?_
        have E1 : ρ (.tmp 1) = .int .i64 n := (hn (.tmp 1) rfl).trans rfl
        refine asked_val (.int .i64 n) (want_free rfl) (run_move (.inl rfl) E1) rfl
      · intro ρ y W hw hn hb hd
        refine askY (fun _ _ h h2 => below_next h2 h) hb (isV (.agg (enC (getT t n)))) (fun _ _ h => h) ?_
        have E53 := hw 53 2 rfl
        have h2 : y 2 = .agg cs := hd 2 rfl
        have E54 := hw 54 3 rfl
        have h3 : y 3 = .int .i64 n := hd 3 rfl
        have EF : ∀ f, ρ (.func f) = .func (.func f) #[] #[] := fun f => hn (.func f) trivial
        refine asked_call _ _ (want_free rfl) (run_call rfl (EF _) Try.func21 (by kernel_rfl) (by kernel_rfl) (by simp only [List.map_toArray, List.map_cons, List.map_nil, E53, h2, E54, h3, EF]; rfl)) ?_
        refine (tget_any t cs n W (h.below (below_next hbelA hb))).mono ?_
        rintro r w1 ⟨rfl, hb1⟩
        exact ⟨_, rfl, hb1, rfl⟩
      · intro ρ y W hw hn hb hd
        refine askY (fun _ _ h h2 => below_next h2 h) hb ((setO 0 0 t)) (fun _ _ h => h) ?_
        have E51 := hw 51 0 rfl
        have h0 : y 0 = .agg ca := hd 0 rfl
        have E52 := hw 52 1 rfl
        have h1 : y 1 = .int .i64 n := hd 1 rfl
        have E55 := hw 55 4 rfl
        have h4 : y 4 = .agg (enC (getT t n)) := hd 4 rfl
        have EF : ∀ f, ρ (.func f) = .func (.func f) #[] #[] := fun f => hn (.func f) trivial
        refine asked_call _ _ (want_free rfl) (run_call rfl (EF _) Try.func18 (by kernel_rfl) (by kernel_rfl) (by simp only [List.map_toArray, List.map_cons, List.map_nil, E51, h0, E52, h1, E55, h4, EF]; rfl)) ?_
        refine (tset_any T ca n (getT t n) W (hTA.below hb) hTz.out).mono ?_
        rintro r w1 ⟨cc, rfl, hO, hb1⟩
        rw [hback.out.1]
        rw [hback.out.2] at hO
        exact ⟨_, rfl, hb1, ⟨_, rfl, hO.mono (Nat.zero_le _)⟩⟩
      · intro ρ y W hw hn hb hd
        refine askY (fun _ _ h h2 => below_next h2 h) hb ((setO 0 0 t)) (fun _ _ h => h) ?_
        have E56 := hw 56 5 rfl
        have h5 := hd 5 rfl
        refine asked_val _ (want_free rfl) (run_move (.inl rfl) E56) ?_
        exact h5
      · intro ρ y W hw hn hb hd
        refine askY (fun _ _ h h2 => below_next h2 h) hb ((tabO 0 t)) (fun _ _ h => h) ?_
        have E50 := hw 50 6 rfl
        have h6 := hd 6 rfl
        obtain ⟨cc, e6, ho6⟩ := h6
        refine asked_val (.agg cc) (want_free rfl) (by simp [execOp, go_sem, stripO, E50, e6]) ?_
        exact ⟨_, rfl, ho6⟩
      · intro ρ y W hw hn hb hd
        refine askY (fun _ _ h h2 => below_next h2 h) hb (isV (.int .i64 0)) (fun _ _ h => h) ?_
        have E50 := hw 50 6 rfl
        have h6 := hd 6 rfl
        obtain ⟨cc, e6, ho6⟩ := h6
        refine asked_val (.int .i64 0) (want_free rfl) (by simp [execOp, go_sem, stripO, E50, e6]) rfl
      · intro ρ y W hw hn hb hd
        refine askY (fun _ _ h h2 => below_next h2 h) hb ((allocR WA.heap.size 24 8)) (fun _ _ h => h) ?_
        refine asked_new (.pointer (some ⟨W.heap.size, 0, none⟩)) (want_free rfl) (by simp [execOp, go_sem, stripO]) ((Below.refl _ _).alloc (Nat.le_refl _) (.cells #[.slice none 0 0, .slice none 0 0, .slice none 0 0, .slice none 0 0, .slice none 0 0, .slice none 0 0, .slice none 0 0, .slice none 0 0] 24)) ?_
        exact ⟨_, _, rfl, hb.size, Blk.new _ _ _, rfl⟩
      · intro ρ y W hw hn hb hd
        have E11 := hw 11 9 rfl
        have h9 := hd 9 rfl
        have E57 := hw 57 7 rfl
        have h7 := hd 7 rfl
        obtain ⟨cc, e7, ho7⟩ := h7
        obtain ⟨g, cur, e9, hg9, hb9, hs9⟩ := h9
        have hsz7 := ho7.sz
        refine askY_store (want_free rfl) _ _ _ rfl g 0 (.agg cc) cc.toList (E11.trans e9) (E57.trans e7) rfl cur _ hb9 (by rw [Array.length_toList, hs9, hsz7]; exact Nat.le_refl _) (by rw [Array.length_toList, hsz7]; exact tab_size) (one_toList ho7.rd.one) ?_
        intro w1 hw1 hgr
        rw [putAt_whole cur cc (by rw [hs9, hsz7])] at hw1
        refine ⟨hb.grown hgr hb.size (fun k hk => by cases hk; exact hg9), ⟨g, cc, e9, hg9, hw1, ho7.keep hb9 (by decide) hgr⟩, ?_⟩
        intro k hk hne
        match k, hk, hne with
        | 0, _, _ => exact fun h => h
        | 1, _, _ => exact fun h => h
        | 2, _, _ => exact fun h => h
        | 3, _, _ => exact fun h => h
        | 4, _, _ => exact fun h => h
        | 5, _, _ => exact fun ⟨c, q1, q2⟩ => ⟨c, q1, q2.keep hb9 (by decide) hgr⟩
        | 6, _, _ => exact fun ⟨c, q1, q2⟩ => ⟨c, q1, q2.keep hb9 (by decide) hgr⟩
        | 7, _, _ => exact fun ⟨c, q1, q2⟩ => ⟨c, q1, q2.keep hb9 (by decide) hgr⟩
        | 8, _, _ => exact fun h => h
        | 9, _, _ => exact fun q => allocR_keep q hw1 (fun _ => hsz7) ⟨_, hb9⟩ hgr
        | 10, _, h => exact absurd rfl h
        | 11, _, _ => exact fun h => h
        | n + 12, h, _ => exact absurd h (by omega)
      · intro ρ y W hw hn hb hd
        refine askY (fun _ _ h h2 => below_next h2 h) hb (isV (.int .i64 0)) (fun _ _ h => h) ?_
        have E58 := hw 58 8 rfl
        have h8 : y 8 = .int .i64 0 := hd 8 rfl
        refine asked_val (.int .i64 0) (want_free rfl) (run_move (.inr rfl) (E58.trans h8)) rfl
      intro y WB hbWB hRWB
      replace hbWB : Below WA.heap.size WA WB := hbWB
      have hy0 : y 0 = .agg ca := hRWB 0 (by decide)
      have hy1 : y 1 = .int .i64 n := hRWB 1 (by decide)
      have hy2 : y 2 = .agg cs := hRWB 2 (by decide)
      have hy3 : y 3 = .int .i64 n := hRWB 3 (by decide)
      have hy4 : y 4 = .agg (enC (getT t n)) := hRWB 4 (by decide)
      have hy8 : y 8 = .int .i64 0 := hRWB 8 (by decide)
      have hy11 : y 11 = .int .i64 0 := hRWB 11 (by decide)
      have hy5 : ((setO 0 0 t)).r (y 5) WB := hRWB 5 (by decide)
      have hy6 : ((setO 0 0 t)).r (y 6) WB := hRWB 6 (by decide)
      have hy7 : ((tabO 0 t)).r (y 7) WB := hRWB 7 (by decide)
      have hy9 : ((allocR WA.heap.size 24 8)).r (y 9) WB := hRWB 9 (by decide)
      have hy10 := hRWB 10 (by decide)
      clear hRWB
      simp only [lay, strip, stripO, List.map_cons, List.map_nil, Nat.reduceAdd, Nat.reduceLT, decide_true, decide_false, if_true, Bool.false_eq_true, if_false, List.setIfInBounds_toArray, List.set_cons_zero, List.set_cons_succ, List.drop_succ_cons, List.drop_zero, List.drop_nil, hy0, hy1, hy2, hy3, hy4, hy8, hy11]
      clear hy0 hy1 hy2 hy3 hy4 hy8 hy11
      clear hy5 hy6 hy7 hy9
      obtain ⟨g, cc, e9, hg9, hbg, hOg⟩ := hy10
      have hbelB := below_next hbelA hbWB
      have hxB := hxA.ext hbWB
      have hszc := hOg.sz
      have hTg := hOg.rd
      clear hbelA hxA haA hTA hbWB hOg
      go_wp2_with (first | (refine wpList_ldg _ _ rfl g 0 e9 rfl _ hbg.rd _ Try.underlying24 tab_agg (by rw [Array.length_toList, hszc]; exact tab_size) ?_) | (refine wpList_ldg _ _ rfl _ 0 rfl rfl _ hxB.rd _ Try.underlying24 tab_agg (by rw [Array.length_toList, h.sz]; exact tab_size) ?_))
      refine (tsame_any t t cc cs _ hTg (h.below hbelB)).mono ?_
      rintro r wE ⟨rfl, hbE⟩
      rw [sameT_self]
      go_wp2
      go_ret
      exact ⟨rfl, below_next hbelB hbE⟩
  · have h0' : (setE t n e != 0) = true := by simpa using h0
    have hzt := Lib.hid (setT_err h0)
    rw [hzt.out] at hA3
    clear h0
    go_wp2_with (refine wpList_ldg _ _ rfl _ 0 rfl rfl _ ha3.rd _ Try.underlying24 tab_agg (by rw [Array.length_toList, hsz2]; exact tab_size) ?_)
    refine (tsame_any zTb zTb ca #[.slice none 0 0, .slice none 0 0, .slice none 0 0, .slice none 0 0, .slice none 0 0, .slice none 0 0, .slice none 0 0, .slice none 0 0] _ hA3 (zTb_O _ 0).rd).mono ?_
    rintro r w4 ⟨rfl, hb4⟩
    rw [sameT_self]
    go_wp2
    go_ret
    exact ⟨rfl, below_next hbel3 hb4⟩
end Go.Proofs.Ytmdnmknmniabeaa
