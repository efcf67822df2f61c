/- The law FramesTake, walked. -/
import Derived.Test.YtohbfjbcfibhcaaFrame11
namespace Go.Proofs.Ytohbfjbcfibhcaa
open Go.RowKit Pw
set_option linter.unusedSimpArgs false
set_option linter.unusedVariables false

theorem frameE_mem (f : Fr) : frameE f = 0 ∨ frameE f = 3 ∨ frameE f = 7 := by
  unfold frameE
  split
  · exact .inr (.inl rfl)
  · split
    · exact .inr (.inr rfl)
    · exact .inl rfl
theorem firstE_mem : ∀ l : List Fr, firstE l = 0 ∨ firstE l = 3 ∨ firstE l = 7
  | [] => .inl rfl
  | f :: r => by
    unfold firstE
    split
    · exact frameE_mem f
    · exact firstE_mem r
theorem wrongM_mem (m : Mem) : wrongM m = 0 ∨ wrongM m = 3 ∨ wrongM m = 4 ∨ wrongM m = 7 := by
  unfold wrongM
  have := firstE_mem m.fs
  split
  · omega
  · split
    · omega
    · split <;> omega
theorem ffree_get {l : List Fr} {k : Nat} (h : ffree l = some k) : ∃ hk : k < l.length, l[k].r = 0 := by
  unfold ffree at h
  rw [List.findIdx?_eq_some_iff_getElem] at h
  obtain ⟨hk, h1, _⟩ := h
  exact ⟨hk, by simpa using h1⟩
theorem ffree_no {l : List Fr} (h : ffree l = none) : freeN l = 0 := by
  unfold ffree at h
  rw [List.findIdx?_eq_none_iff] at h
  unfold freeN
  rw [List.length_eq_zero_iff, List.filter_eq_nil_iff]
  exact fun f hf => by simpa using h f hf
theorem take_full {m : Mem} {p : Page} {file index : Int} (h : takeE m p file index = 10) : freeN m.fs = 0 := by
  unfold takeE at h
  have h1 := wrongM_mem m
  have h2 := frameE_mem (takenF p file index)
  split at h
  · omega
  · split at h
    · omega
    · split at h
      · exact ffree_no ‹_›
      · cases h
theorem take_ok {m : Mem} {p : Page} {file index : Int} (h : takeE m p file index = 0) : wrongM m = 0 ∧ frameE (takenF p file index) = 0 ∧ ∃ k, ∃ hk : k < m.fs.length, m.fs[k].r = 0 ∧ takeK m p file index = k ∧ takeM m p file index = ⟨m.fs.set k (takenF p file index), m.hand⟩ := by
  have h0 := h
  unfold takeE at h
  split at h
  · exact absurd h ‹_›
  · rename_i h1
    split at h
    · exact absurd h ‹_›
    · rename_i h2
      split at h
      · cases h
      · rename_i h3
        cases hf : ffree m.fs with
        | none => exact absurd hf h3
        | some k =>
          obtain ⟨hk, hr⟩ := ffree_get hf
          have hK : takeK m p file index = k := by unfold takeK; rw [if_pos h0, hf]; rfl
          exact ⟨by omega, by omega, k, hk, hr, hK, by unfold takeM; rw [if_pos h0, hK]⟩
theorem freeN_cons (f : Fr) (l : List Fr) : freeN (f :: l) = (if f.r = 0 then 1 else 0) + freeN l := by
  unfold freeN
  rw [List.filter_cons]
  by_cases h : f.r = 0
  · simp [h]; omega
  · simp [h]
theorem freeN_set : ∀ (l : List Fr) (k : Nat) (hk : k < l.length) (x : Fr), l[k].r = 0 → x.r ≠ 0 → freeN (l.set k x) + 1 = freeN l
  | f :: l, 0, _, x, h, hx => by
    rw [List.set_cons_zero, freeN_cons, freeN_cons, if_neg hx, if_pos (show f.r = 0 from h)]
    omega
  | f :: l, k + 1, hk, x, h, hx => by
    rw [List.set_cons_succ, freeN_cons, freeN_cons]
    have := freeN_set l k (by simpa using hk) x h hx
    omega
theorem free_is {f : Fr} (h : frameE f = 0) (hr : f.r = 0) : f = frZ := by
  obtain ⟨⟨_, _, h1, _, _, _⟩, h2, h3⟩ := (frameE_iff f).1 h
  obtain ⟨h4, h5, h6, h7⟩ := h2 hr
  have h8 := h3 h6
  have h9 : f.f = -1 := by omega
  obtain ⟨p, r, u, d, ff, i⟩ := f
  simp only at *
  subst hr h4 h5 h7 h8 h9
  rfl
theorem take_back {m : Mem} {x : Fr} {k : Nat} (hw : wrongM m = 0) (hx : frameE x = 0) (hx1 : x.r = 1) (hk : k < m.fs.length) (hr : m.fs[k].r = 0) : holdE ⟨m.fs.set k x, m.hand⟩ k (-1) = 0 ∧ holdM ⟨m.fs.set k x, m.hand⟩ k (-1) = m := by
  have hX : wrongM ⟨m.fs.set k x, m.hand⟩ = 0 := set_ok hw hx
  have hg : (m.fs.set k x).getD (k : Int).toNat fr0 = x := by simp [hk]
  have hE : holdE ⟨m.fs.set k x, m.hand⟩ k (-1) = 0 := by
    unfold holdE
    rw [if_neg (by omega)]
    simp only [hg, List.length_set, hx1]
    rw [if_neg (by omega), if_neg (by omega)]
  refine ⟨hE, ?_⟩
  unfold holdM
  rw [if_pos hE]
  simp only [hg]
  have hh : heldF x (-1) = frZ := by unfold heldF; rw [if_pos (by omega)]
  have hz : m.fs[k] = frZ := free_is (((wrongM_iff m).1 hw).2.1 _ (List.getElem_mem hk)) hr
  rw [hh, ← hz]
  simp only [Int.toNat_natCast, List.set_set]
  rw [List.set_getElem_self]

set_option maxHeartbeats 2000000 in
set_option maxRecDepth 100000 in
theorem frames_take (m : Mem) (p : Page) (file index : Int) (a : Option Addr) (c : Nat) (w : World) (h : MRd w a c m) :
    Calls Try.prog 12 #[.agg #[.slice a m.fs.length c, .int .i64 m.hand], .agg (pgC p), .int .i64 file, .int .i64 index] w fun e w' => e = .returned (.bool true) ∧ Below w.heap.size w w' := by
  go_enter Try.func12, Try.ntmps12
  go_wp2_with fail
  refine abs2 (fun W => Calls _ _ _ W _) fun W0 hb0 hx0 hp0 hs0 => ?_
  refine (alive3 _).mono ?_
  rintro e w1 ⟨rfl, hb1⟩
  have hbel1 := below_next hb0 hb1
  have hx1 := hx0.ext hb1
  have hp1 := hp0.ext hb1
  have hd1 := h.below hbel1
  clear hx0 hp0 hb0 hb1 hs0
  have hc1 := hx1.cell
  have hcp := hp1.cell
  obtain ⟨e0, e1, e2, e3, e4, e5, e6, e7⟩ := pgC_all p
  go_wp2_with fail
  refine (mtake_any m p file index a c _ hd1).mono ?_
  rintro e w2 ⟨vb, rfl, ho2, hb2⟩
  have hbel2 := below_next hbel1 hb2
  have hx2 := hx1.ext hb2
  have hp2 := hp1.ext hb2
  obtain ⟨a2, c2, rfl, hy2⟩ := mown_rd ho2
  clear hx1 hp1 hd1 hb2 ho2 hc1 hcp e0 e1 e2 e3 e4 e5 e6 e7
  by_cases hw : takeE m p file index = 0
  · obtain ⟨q1, q2, k, hk, hr, hK, hX⟩ := take_ok hw
    obtain ⟨b1, b2⟩ := take_back q1 q2 rfl hk hr
    have hfr := freeN_set m.fs k hk (takenF p file index) hr (by show (1 : Int) ≠ 0; omega)
    have hwx := set_ok (k := k) q1 q2
    rw [hw, hK]
    rw [hX] at hy2 ⊢
    have hgx : ∀ h : k < (m.fs.set k (takenF p file index)).length, (m.fs.set k (takenF p file index))[k] = takenF p file index := fun h => by simp
    have hlx : (m.fs.set k (takenF p file index)).length = m.fs.length := by simp
    have hl40 := ((wrongM_iff m).1 q1).1
    obtain ⟨X, hXX⟩ : ∃ X : Mem, X = ⟨m.fs.set k (takenF p file index), m.hand⟩ := ⟨_, rfl⟩
    have hxf : m.fs.set k (takenF p file index) = X.fs := by rw [hXX]
    rw [hxf] at hfr hgx hlx
    rw [← hXX] at b1 b2 hwx hy2 ⊢
    clear hXX hxf hX hK hw q2
    have hlx' := Lib.hid hlx
    clear hlx
    go_upto_region 8 with (fail)
    refine abs1 (fun W => Code.wp _ _ _ _ W) fun w3 hb3 hz3 hs3 => ?_
    have hbel3 := below_next hbel2 hb3
    have hx3 := hx2.ext hb3
    have hp3 := hp2.ext hb3
    have hy3 := hy2.below hb3
    have hd3 := h.below hbel3
    clear hx2 hp2 hy2 hb3 hs3
    obtain ⟨b, off, rfl, hc⟩ := fr_at hd3.rd k hk
    obtain ⟨bx, offx, rfl, hcx⟩ := fr_at hy3.rd k (by rw [hlx'.out]; exact hk)
    have c8 := hc.c8
    rw [hr] at c8
    rw [hgx] at hcx
    have hfb : ((freeN X.fs : Int) != (freeN m.fs : Int) - 1) = false := by simp; omega
    have hfl := freeN_le m.fs
    have n0 : ¬ ((k : Int) < 0) := by omega
    have n1 : ¬ ((m.fs.length : Int) ≤ (k : Int)) := by omega
    have n2 : (k : Int) < (m.fs.length : Int) := by omega
    have n3 : (k : Int) < (X.fs.length : Int) := by rw [hlx'.out]; exact n2
    clear hc hgx
    refine wp_grow 41 [isV (.agg #[.slice (some ⟨bx, offx, none⟩) X.fs.length c2, .int .i64 X.hand]), isV (.int .i64 0), isV (.bool false), isV (.bool false), isV (.int .i64 k), isV (.bool false), isV (.bool false), isV (.bool false), isV (.int .i64 k), isV (.pointer (some ⟨w.heap.size, 0, none⟩)), isV (.slice (some ⟨b, off, none⟩) m.fs.length c), isV (.int .i64 (m.fs.length : Int)), isV (.bool false), isV (.bool false), isV (.bool false), isV (.pointer (some ⟨w.heap.size, 0, none⟩)), isV (.slice (some ⟨b, off, none⟩) m.fs.length c), isV (.int .i64 k), isV (.pointer (some ⟨b, off + k * 13, none⟩)), isV (.pointer (some ⟨b, off + k * 13 + 8, none⟩)), isV (.int .i64 0), isV (.bool false), isV (.bool false), isV (.bool false), isV (.pointer (some ⟨w2.heap.size, 0, none⟩)), isV (.slice (some ⟨bx, offx, none⟩) X.fs.length c2), isV (.int .i64 k), isV (.pointer (some ⟨bx, offx + k * 13, none⟩)), isV (.pointer (some ⟨bx, offx + k * 13, none⟩)), isV (.agg (pgC p)), isV (.agg (pgC p)), isV (.bool false), isV (.bool false), isV (.bool false), isV (.agg #[.slice (some ⟨bx, offx, none⟩) X.fs.length c2, .int .i64 X.hand]), isV (.int .i64 (freeN X.fs)), isV (.agg #[.slice (some ⟨b, off, none⟩) m.fs.length c, .int .i64 m.hand]), isV (.int .i64 (freeN m.fs)), isV (.int .i64 ((freeN m.fs : Int) - 1)), isV (.bool false), isV (.bool false)] (by kernel_rfl) (by kernel_rfl) (by kernel_rfl) (by decide) _ rfl (by kernel_rfl) (all_cons ?_ (all_cons ?_ (all_cons ?_ (all_cons ?_ (all_cons ?_ (all_cons ?_ (all_cons ?_ (all_cons ?_ (all_cons ?_ (all_cons ?_ (all_cons ?_ (all_cons ?_ (all_cons ?_ (all_cons ?_ (all_cons ?_ (all_cons ?_ (all_cons ?_ (all_cons ?_ (all_cons ?_ (all_cons ?_ (all_cons ?_ (all_cons ?_ (all_cons ?_ (all_cons ?_ (all_cons ?_ (all_cons ?_ (all_cons ?_ (all_cons ?_ (all_cons ?_ (all_cons ?_ (all_cons ?_ (all_cons ?_ (all_cons ?_ (all_cons ?_ (all_cons ?_ (all_cons ?_ (all_cons ?_ (all_cons ?_ (all_cons ?_ (all_cons ?_ (all_cons ?_ (all_nil)))))))))))))))))))))))))))))))))))))))))) ?_
    · intro ρ y W hw hn hb hd
      have E9 : ρ (.tmp 9) = .pointer (some ⟨w2.heap.size, 0, none⟩) := (hn (.tmp 9) rfl).trans rfl
      refine asked_val (.agg #[.slice (some ⟨bx, offx, none⟩) X.fs.length c2, .int .i64 X.hand]) (want_free rfl) (by simp [execOp, go_sem, E9, (hz3.ext hb).cell]) rfl
    · intro ρ y W hw hn hb hd
      have E35 := hw 35 0 rfl
      have h0 : y 0 = .agg #[.slice (some ⟨bx, offx, none⟩) X.fs.length c2, .int .i64 X.hand] := hd 0 rfl
      have EF : ∀ f, ρ (.func f) = .func (.func f) #[] #[] := fun f => hn (.func f) trivial
      refine asked_call _ _ (want_free rfl) (run_call rfl (EF _) Try.func43 (by kernel_rfl) (by kernel_rfl) (by simp only [List.map_toArray, List.map_cons, List.map_nil, E35, h0, EF]; rfl)) ?_
      refine (mwrong_any X _ c2 W (hy3.below hb)).mono ?_
      rintro e w1 ⟨rfl, hb1⟩
      rw [hwx]
      exact ⟨_, rfl, hb1, rfl⟩
    · intro ρ y W hw hn hb hd
      have E36 := hw 36 1 rfl
      have h1 : y 1 = .int .i64 0 := hd 1 rfl
      refine asked_val (.bool false) (want_free rfl) (run_bin rfl (E36.trans h1) (hn (.const _) trivial) (by simp [go_sem])) rfl
    · intro ρ y W hw hn hb hd
      have E37 := hw 37 2 rfl
      have h2 : y 2 = .bool false := hd 2 rfl
      refine asked_val (.bool false) (want_free rfl) (run_move (.inl rfl) (E37.trans h2)) rfl
    · intro ρ y W hw hn hb hd
      have E10 : ρ (.tmp 10) = .int .i64 k := (hn (.tmp 10) rfl).trans rfl
      refine asked_val (.int .i64 k) (want_at 3 38 false false rfl rfl ((hw 38 3 rfl).trans (hd 3 rfl))) (run_move (.inl rfl) E10) rfl
    · intro ρ y W hw hn hb hd
      have E39 := hw 39 4 rfl
      have h4 : y 4 = .int .i64 k := hd 4 rfl
      refine asked_val (.bool false) (want_at 3 38 false false rfl rfl ((hw 38 3 rfl).trans (hd 3 rfl))) (run_bin rfl (E39.trans h4) (hn (.const _) trivial) (by simp [go_sem, n0])) rfl
    · intro ρ y W hw hn hb hd
      have E38 := hw 38 3 rfl
      have h3 : y 3 = .bool false := hd 3 rfl
      have E40 := hw 40 5 rfl
      have h5 : y 5 = .bool false := hd 5 rfl
      refine asked_val (.bool false) (want_free rfl) (run_pick rfl (E38.trans h3) (by simpa using (E40.trans h5))) rfl
    · intro ρ y W hw hn hb hd
      have E41 := hw 41 6 rfl
      have h6 : y 6 = .bool false := hd 6 rfl
      refine asked_val (.bool false) (want_free rfl) (run_move (.inl rfl) (E41.trans h6)) rfl
    · intro ρ y W hw hn hb hd
      have E10 : ρ (.tmp 10) = .int .i64 k := (hn (.tmp 10) rfl).trans rfl
      refine asked_val (.int .i64 k) (want_at 7 42 false false rfl rfl ((hw 42 7 rfl).trans (hd 7 rfl))) (run_move (.inl rfl) E10) rfl
    · intro ρ y W hw hn hb hd
      have E4 : ρ (.tmp 4) = .pointer (some ⟨w.heap.size, 0, none⟩) := (hn (.tmp 4) rfl).trans rfl
      refine asked_val (.pointer (some ⟨w.heap.size, 0, none⟩)) (want_at 7 42 false false rfl rfl ((hw 42 7 rfl).trans (hd 7 rfl))) (by simp [execOp, go_sem, E4]) rfl
    · intro ρ y W hw hn hb hd
      have E44 := hw 44 9 rfl
      have h9 : y 9 = .pointer (some ⟨w.heap.size, 0, none⟩) := hd 9 rfl
      refine asked_val (.slice (some ⟨b, off, none⟩) m.fs.length c) (want_at 7 42 false false rfl rfl ((hw 42 7 rfl).trans (hd 7 rfl))) (by simp [execOp, go_sem, E44, h9, (hx3.ext hb).cell, Try.underlying62]) rfl
    · intro ρ y W hw hn hb hd
      have E45 := hw 45 10 rfl
      have h10 : y 10 = .slice (some ⟨b, off, none⟩) m.fs.length c := hd 10 rfl
      refine asked_val (.int .i64 (m.fs.length : Int)) (want_at 7 42 false false rfl rfl ((hw 42 7 rfl).trans (hd 7 rfl))) (run_lenS rfl (E45.trans h10) Try.underlying62) rfl
    · intro ρ y W hw hn hb hd
      have E43 := hw 43 8 rfl
      have h8 : y 8 = .int .i64 k := hd 8 rfl
      have E46 := hw 46 11 rfl
      have h11 : y 11 = .int .i64 (m.fs.length : Int) := hd 11 rfl
      refine asked_val (.bool false) (want_at 7 42 false false rfl rfl ((hw 42 7 rfl).trans (hd 7 rfl))) (run_bin rfl (E43.trans h8) (E46.trans h11) (by simp [go_sem, n1])) rfl
    · intro ρ y W hw hn hb hd
      have E42 := hw 42 7 rfl
      have h7 : y 7 = .bool false := hd 7 rfl
      have E47 := hw 47 12 rfl
      have h12 : y 12 = .bool false := hd 12 rfl
      refine asked_val (.bool false) (want_free rfl) (run_pick rfl (E42.trans h7) (by simpa using (E47.trans h12))) rfl
    · intro ρ y W hw hn hb hd
      have E48 := hw 48 13 rfl
      have h13 : y 13 = .bool false := hd 13 rfl
      refine asked_val (.bool false) (want_free rfl) (run_move (.inl rfl) (E48.trans h13)) rfl
    · intro ρ y W hw hn hb hd
      have E4 : ρ (.tmp 4) = .pointer (some ⟨w.heap.size, 0, none⟩) := (hn (.tmp 4) rfl).trans rfl
      refine asked_val (.pointer (some ⟨w.heap.size, 0, none⟩)) (want_at 14 49 false false rfl rfl ((hw 49 14 rfl).trans (hd 14 rfl))) (by simp [execOp, go_sem, E4]) rfl
    · intro ρ y W hw hn hb hd
      have E50 := hw 50 15 rfl
      have h15 : y 15 = .pointer (some ⟨w.heap.size, 0, none⟩) := hd 15 rfl
      refine asked_val (.slice (some ⟨b, off, none⟩) m.fs.length c) (want_at 14 49 false false rfl rfl ((hw 49 14 rfl).trans (hd 14 rfl))) (by simp [execOp, go_sem, E50, h15, (hx3.ext hb).cell, Try.underlying62]) rfl
    · intro ρ y W hw hn hb hd
      have E10 : ρ (.tmp 10) = .int .i64 k := (hn (.tmp 10) rfl).trans rfl
      refine asked_val (.int .i64 k) (want_at 14 49 false false rfl rfl ((hw 49 14 rfl).trans (hd 14 rfl))) (run_move (.inl rfl) E10) rfl
    · intro ρ y W hw hn hb hd
      have E51 := hw 51 16 rfl
      have h16 : y 16 = .slice (some ⟨b, off, none⟩) m.fs.length c := hd 16 rfl
      have E52 := hw 52 17 rfl
      have h17 : y 17 = .int .i64 k := hd 17 rfl
      refine asked_val (.pointer (some ⟨b, off + k * 13, none⟩)) (want_at 14 49 false false rfl rfl ((hw 49 14 rfl).trans (hd 14 rfl))) (by simp [execOp, go_sem, E51, h16, E52, h17, n0, n2, hk]) rfl
    · intro ρ y W hw hn hb hd
      have E53 := hw 53 18 rfl
      have h18 : y 18 = .pointer (some ⟨b, off + k * 13, none⟩) := hd 18 rfl
      refine asked_val (.pointer (some ⟨b, off + k * 13 + 8, none⟩)) (want_at 14 49 false false rfl rfl ((hw 49 14 rfl).trans (hd 14 rfl))) (by simp [execOp, go_sem, E53, h18]) rfl
    · intro ρ y W hw hn hb hd
      have E54 := hw 54 19 rfl
      have h19 : y 19 = .pointer (some ⟨b, off + k * 13 + 8, none⟩) := hd 19 rfl
      have c8W := cell_later hb c8
      refine asked_val (.int .i64 0) (want_at 14 49 false false rfl rfl ((hw 49 14 rfl).trans (hd 14 rfl))) (by simp [execOp, go_sem, E54, h19, c8W]) rfl
    · intro ρ y W hw hn hb hd
      have E55 := hw 55 20 rfl
      have h20 : y 20 = .int .i64 0 := hd 20 rfl
      refine asked_val (.bool false) (want_at 14 49 false false rfl rfl ((hw 49 14 rfl).trans (hd 14 rfl))) (run_bin rfl (E55.trans h20) (hn (.const _) trivial) (by simp [go_sem])) rfl
    · intro ρ y W hw hn hb hd
      have E49 := hw 49 14 rfl
      have h14 : y 14 = .bool false := hd 14 rfl
      have E56 := hw 56 21 rfl
      have h21 : y 21 = .bool false := hd 21 rfl
      refine asked_val (.bool false) (want_free rfl) (run_pick rfl (E49.trans h14) (by simpa using (E56.trans h21))) rfl
    · intro ρ y W hw hn hb hd
      have E57 := hw 57 22 rfl
      have h22 : y 22 = .bool false := hd 22 rfl
      refine asked_val (.bool false) (want_free rfl) (run_move (.inl rfl) (E57.trans h22)) rfl
    · intro ρ y W hw hn hb hd
      have E9 : ρ (.tmp 9) = .pointer (some ⟨w2.heap.size, 0, none⟩) := (hn (.tmp 9) rfl).trans rfl
      refine asked_val (.pointer (some ⟨w2.heap.size, 0, none⟩)) (want_at 23 58 false false rfl rfl ((hw 58 23 rfl).trans (hd 23 rfl))) (by simp [execOp, go_sem, E9]) rfl
    · intro ρ y W hw hn hb hd
      have E59 := hw 59 24 rfl
      have h24 : y 24 = .pointer (some ⟨w2.heap.size, 0, none⟩) := hd 24 rfl
      refine asked_val (.slice (some ⟨bx, offx, none⟩) X.fs.length c2) (want_at 23 58 false false rfl rfl ((hw 58 23 rfl).trans (hd 23 rfl))) (by simp [execOp, go_sem, E59, h24, (hz3.ext hb).cell, Try.underlying62]) rfl
    · intro ρ y W hw hn hb hd
      have E10 : ρ (.tmp 10) = .int .i64 k := (hn (.tmp 10) rfl).trans rfl
      refine asked_val (.int .i64 k) (want_at 23 58 false false rfl rfl ((hw 58 23 rfl).trans (hd 23 rfl))) (run_move (.inl rfl) E10) rfl
    · intro ρ y W hw hn hb hd
      have E60 := hw 60 25 rfl
      have h25 : y 25 = .slice (some ⟨bx, offx, none⟩) X.fs.length c2 := hd 25 rfl
      have E61 := hw 61 26 rfl
      have h26 : y 26 = .int .i64 k := hd 26 rfl
      refine asked_val (.pointer (some ⟨bx, offx + k * 13, none⟩)) (want_at 23 58 false false rfl rfl ((hw 58 23 rfl).trans (hd 23 rfl))) (by simp [execOp, go_sem, E60, h25, E61, h26, n0, n3]) rfl
    · intro ρ y W hw hn hb hd
      have E62 := hw 62 27 rfl
      have h27 : y 27 = .pointer (some ⟨bx, offx + k * 13, none⟩) := hd 27 rfl
      refine asked_val (.pointer (some ⟨bx, offx + k * 13, none⟩)) (want_at 23 58 false false rfl rfl ((hw 58 23 rfl).trans (hd 23 rfl))) (by simp [execOp, go_sem, E62, h27]) rfl
    · intro ρ y W hw hn hb hd
      have E63 := hw 63 28 rfl
      have h28 : y 28 = .pointer (some ⟨bx, offx + k * 13, none⟩) := hd 28 rfl
      have d0 := cell_later hb hcx.c0
      have d1 := cell_later hb hcx.c1
      have d2 := cell_later hb hcx.c2
      have d3 := cell_later hb hcx.c3
      have d4 := cell_later hb hcx.c4
      have d5 := cell_later hb hcx.c5
      have d6 := cell_later hb hcx.c6
      have d7 := cell_later hb hcx.c7
      simp only [takenF] at d0 d1 d2 d3 d4 d5 d6 d7
      refine asked_val (.agg (pgC p)) (want_at 23 58 false false rfl rfl ((hw 58 23 rfl).trans (hd 23 rfl))) (by simp [execOp, go_sem, E63, h28, d0, d1, d2, d3, d4, d5, d6, d7, pgC_lit]) rfl
    · intro ρ y W hw hn hb hd
      have E5 : ρ (.tmp 5) = .pointer (some ⟨w.heap.size + 1, 0, none⟩) := (hn (.tmp 5) rfl).trans rfl
      refine asked_val (.agg (pgC p)) (want_at 23 58 false false rfl rfl ((hw 58 23 rfl).trans (hd 23 rfl))) (run_load_blk rfl E5 (hp3.ext hb) Try.underlying23 rfl (pg_info _)) rfl
    · intro ρ y W hw hn hb hd
      have E64 := hw 64 29 rfl
      have h29 : y 29 = .agg (pgC p) := hd 29 rfl
      have E65 := hw 65 30 rfl
      have h30 : y 30 = .agg (pgC p) := hd 30 rfl
      have heq : (Op.equalIn 10000 23 (.agg (pgC p)) (.agg (pgC p))).run Try.prog W = .ok (p == p) W := run_eq_page W 9998 _ _ Try.underlying23 Try.underlying5 byte_size _ _
      refine asked_val (.bool false) (want_at 23 58 false false rfl rfl ((hw 58 23 rfl).trans (hd 23 rfl))) (run_bin rfl (E64.trans h29) (E65.trans h30) (by simp [go_sem, heq])) rfl
    · intro ρ y W hw hn hb hd
      have E58 := hw 58 23 rfl
      have h23 : y 23 = .bool false := hd 23 rfl
      have E66 := hw 66 31 rfl
      have h31 : y 31 = .bool false := hd 31 rfl
      refine asked_val (.bool false) (want_free rfl) (run_pick rfl (E58.trans h23) (by simpa using (E66.trans h31))) rfl
    · intro ρ y W hw hn hb hd
      have E67 := hw 67 32 rfl
      have h32 : y 32 = .bool false := hd 32 rfl
      refine asked_val (.bool false) (want_free rfl) (run_move (.inl rfl) (E67.trans h32)) rfl
    · intro ρ y W hw hn hb hd
      have E9 : ρ (.tmp 9) = .pointer (some ⟨w2.heap.size, 0, none⟩) := (hn (.tmp 9) rfl).trans rfl
      refine asked_val (.agg #[.slice (some ⟨bx, offx, none⟩) X.fs.length c2, .int .i64 X.hand]) (want_at 33 68 false false rfl rfl ((hw 68 33 rfl).trans (hd 33 rfl))) (by simp [execOp, go_sem, E9, (hz3.ext hb).cell]) rfl
    · intro ρ y W hw hn hb hd
      have E69 := hw 69 34 rfl
      have h34 : y 34 = .agg #[.slice (some ⟨bx, offx, none⟩) X.fs.length c2, .int .i64 X.hand] := hd 34 rfl
      have EF : ∀ f, ρ (.func f) = .func (.func f) #[] #[] := fun f => hn (.func f) trivial
      refine asked_call _ _ (want_at 33 68 false false rfl rfl ((hw 68 33 rfl).trans (hd 33 rfl))) (run_call rfl (EF _) Try.func48 (by kernel_rfl) (by kernel_rfl) (by simp only [List.map_toArray, List.map_cons, List.map_nil, E69, h34, EF]; rfl)) ?_
      refine (mfree_any X _ c2 W (hy3.below hb)).mono ?_
      rintro e w1 ⟨rfl, hb1⟩
      exact ⟨_, rfl, hb1, rfl⟩
    · intro ρ y W hw hn hb hd
      have E4 : ρ (.tmp 4) = .pointer (some ⟨w.heap.size, 0, none⟩) := (hn (.tmp 4) rfl).trans rfl
      refine asked_val (.agg #[.slice (some ⟨b, off, none⟩) m.fs.length c, .int .i64 m.hand]) (want_at 33 68 false false rfl rfl ((hw 68 33 rfl).trans (hd 33 rfl))) (by simp [execOp, go_sem, E4, (hx3.ext hb).cell]) rfl
    · intro ρ y W hw hn hb hd
      have E71 := hw 71 36 rfl
      have h36 : y 36 = .agg #[.slice (some ⟨b, off, none⟩) m.fs.length c, .int .i64 m.hand] := hd 36 rfl
      have EF : ∀ f, ρ (.func f) = .func (.func f) #[] #[] := fun f => hn (.func f) trivial
      refine asked_call _ _ (want_at 33 68 false false rfl rfl ((hw 68 33 rfl).trans (hd 33 rfl))) (run_call rfl (EF _) Try.func48 (by kernel_rfl) (by kernel_rfl) (by simp only [List.map_toArray, List.map_cons, List.map_nil, E71, h36, EF]; rfl)) ?_
      refine (mfree_any m _ c W (hd3.below hb)).mono ?_
      rintro e w1 ⟨rfl, hb1⟩
      exact ⟨_, rfl, hb1, rfl⟩
    · intro ρ y W hw hn hb hd
      have E72 := hw 72 37 rfl
      have h37 : y 37 = .int .i64 (freeN m.fs) := hd 37 rfl
      refine asked_val (.int .i64 ((freeN m.fs : Int) - 1)) (want_at 33 68 false false rfl rfl ((hw 68 33 rfl).trans (hd 33 rfl))) (run_bin rfl (E72.trans h37) (hn (.const _) trivial) (by simp [go_sem, IntKind.wrap, IntKind.bits, IntKind.signed]; omega)) rfl
    · intro ρ y W hw hn hb hd
      have E70 := hw 70 35 rfl
      have h35 : y 35 = .int .i64 (freeN X.fs) := hd 35 rfl
      have E73 := hw 73 38 rfl
      have h38 : y 38 = .int .i64 ((freeN m.fs : Int) - 1) := hd 38 rfl
      refine asked_val (.bool false) (want_at 33 68 false false rfl rfl ((hw 68 33 rfl).trans (hd 33 rfl))) (run_bin rfl (E70.trans h35) (E73.trans h38) (by simp [go_sem, hfb])) rfl
    · intro ρ y W hw hn hb hd
      have E68 := hw 68 33 rfl
      have h33 : y 33 = .bool false := hd 33 rfl
      have E74 := hw 74 39 rfl
      have h39 : y 39 = .bool false := hd 39 rfl
      refine asked_val (.bool false) (want_free rfl) (run_pick rfl (E68.trans h33) (by simpa using (E74.trans h39))) rfl
    intro y WA hbWA hRWA
    have hy0 : y 0 = .agg #[.slice (some ⟨bx, offx, none⟩) X.fs.length c2, .int .i64 X.hand] := hRWA 0 (by decide)
    have hy1 : y 1 = .int .i64 0 := hRWA 1 (by decide)
    have hy2 : y 2 = .bool false := hRWA 2 (by decide)
    have hy3 : y 3 = .bool false := hRWA 3 (by decide)
    have hy4 : y 4 = .int .i64 k := hRWA 4 (by decide)
    have hy5 : y 5 = .bool false := hRWA 5 (by decide)
    have hy6 : y 6 = .bool false := hRWA 6 (by decide)
    have hy7 : y 7 = .bool false := hRWA 7 (by decide)
    have hy8 : y 8 = .int .i64 k := hRWA 8 (by decide)
    have hy9 : y 9 = .pointer (some ⟨w.heap.size, 0, none⟩) := hRWA 9 (by decide)
    have hy10 : y 10 = .slice (some ⟨b, off, none⟩) m.fs.length c := hRWA 10 (by decide)
    have hy11 : y 11 = .int .i64 (m.fs.length : Int) := hRWA 11 (by decide)
    have hy12 : y 12 = .bool false := hRWA 12 (by decide)
    have hy13 : y 13 = .bool false := hRWA 13 (by decide)
    have hy14 : y 14 = .bool false := hRWA 14 (by decide)
    have hy15 : y 15 = .pointer (some ⟨w.heap.size, 0, none⟩) := hRWA 15 (by decide)
    have hy16 : y 16 = .slice (some ⟨b, off, none⟩) m.fs.length c := hRWA 16 (by decide)
    have hy17 : y 17 = .int .i64 k := hRWA 17 (by decide)
    have hy18 : y 18 = .pointer (some ⟨b, off + k * 13, none⟩) := hRWA 18 (by decide)
    have hy19 : y 19 = .pointer (some ⟨b, off + k * 13 + 8, none⟩) := hRWA 19 (by decide)
    have hy20 : y 20 = .int .i64 0 := hRWA 20 (by decide)
    have hy21 : y 21 = .bool false := hRWA 21 (by decide)
    have hy22 : y 22 = .bool false := hRWA 22 (by decide)
    have hy23 : y 23 = .bool false := hRWA 23 (by decide)
    have hy24 : y 24 = .pointer (some ⟨w2.heap.size, 0, none⟩) := hRWA 24 (by decide)
    have hy25 : y 25 = .slice (some ⟨bx, offx, none⟩) X.fs.length c2 := hRWA 25 (by decide)
    have hy26 : y 26 = .int .i64 k := hRWA 26 (by decide)
    have hy27 : y 27 = .pointer (some ⟨bx, offx + k * 13, none⟩) := hRWA 27 (by decide)
    have hy28 : y 28 = .pointer (some ⟨bx, offx + k * 13, none⟩) := hRWA 28 (by decide)
    have hy29 : y 29 = .agg (pgC p) := hRWA 29 (by decide)
    have hy30 : y 30 = .agg (pgC p) := hRWA 30 (by decide)
    have hy31 : y 31 = .bool false := hRWA 31 (by decide)
    have hy32 : y 32 = .bool false := hRWA 32 (by decide)
    have hy33 : y 33 = .bool false := hRWA 33 (by decide)
    have hy34 : y 34 = .agg #[.slice (some ⟨bx, offx, none⟩) X.fs.length c2, .int .i64 X.hand] := hRWA 34 (by decide)
    have hy35 : y 35 = .int .i64 (freeN X.fs) := hRWA 35 (by decide)
    have hy36 : y 36 = .agg #[.slice (some ⟨b, off, none⟩) m.fs.length c, .int .i64 m.hand] := hRWA 36 (by decide)
    have hy37 : y 37 = .int .i64 (freeN m.fs) := hRWA 37 (by decide)
    have hy38 : y 38 = .int .i64 ((freeN m.fs : Int) - 1) := hRWA 38 (by decide)
    have hy39 : y 39 = .bool false := hRWA 39 (by decide)
    have hy40 : y 40 = .bool false := hRWA 40 (by decide)
    clear hRWA
    simp only [lay, Nat.reduceAdd, Nat.reduceLT, decide_true, decide_false, if_true, Bool.false_eq_true, if_false, List.setIfInBounds_toArray, List.set_cons_zero, List.set_cons_succ, List.drop_succ_cons, List.drop_zero, List.drop_nil, hy0, hy1, hy2, hy3, hy4, hy5, hy6, hy7, hy8, hy9, hy10, hy11, hy12, hy13, hy14, hy15, hy16, hy17, hy18, hy19, hy20, hy21, hy22, hy23, hy24, hy25, hy26, hy27, hy28, hy29, hy30, hy31, hy32, hy33, hy34, hy35, hy36, hy37, hy38, hy39, hy40]
    clear hy0 hy1 hy2 hy3 hy4 hy5 hy6 hy7 hy8 hy9 hy10 hy11 hy12 hy13 hy14 hy15 hy16 hy17 hy18 hy19 hy20 hy21 hy22 hy23 hy24 hy25 hy26 hy27 hy28 hy29 hy30 hy31 hy32 hy33 hy34 hy35 hy36 hy37 hy38 hy39 hy40
    have hbelA := below_next hbel3 hbWA
    have hxA := hx3.ext hbWA
    have hzA := hz3.ext hbWA
    have hyA := hy3.below hbWA
    clear hx3 hp3 hz3 hy3 hd3 hbWA hcx c8 hfb hfl n0 n1 n2 n3 hwx
    have hcz := hzA.cell
    have hh := mhold_any X k (-1) _ c2 WA hyA
    rw [b1, b2] at hh
    clear b1 b2
    go_wp2_with fail
    refine hh.mono ?_
    rintro e w4 ⟨vb, rfl, ho4, hb4⟩
    have hbel4 := below_next hbelA hb4
    have hx4 := hxA.ext hb4
    obtain ⟨a4, c4, rfl, hv4⟩ := mown_rd ho4
    clear hxA hzA hyA hcz hh ho4 hb4
    go_upto_region 11 with (fail)
    refine abs1 (fun W => Code.wp _ _ _ _ W) fun w5 hb5 hu5 hs5 => ?_
    have hbel5 := below_next hbel4 hb5
    have hx5 := hx4.ext hb5
    have hv5 := hv4.below hb5
    clear hx4 hv4 hb5 hs5
    have hcx := hx5.cell
    have hcu := hu5.cell
    go_wp2_with fail
    refine (msame_any m m _ c a4 c4 _ (h.below hbel5) hv5).mono ?_
    rintro e w7 ⟨rfl, hb7⟩
    rw [sameM_iff.2 rfl]
    go_wp2
    go_ret
    exact ⟨rfl, below_next hbel5 hb7⟩
  · by_cases h10 : takeE m p file index = 10
    · have hf0 := take_full h10
      rw [h10]
      go_upto_region 4 with (fail)
      refine abs1 (fun W => Code.wp _ _ _ _ W) fun w3 hb3 hz3 hs3 => ?_
      have hbel3 := below_next hbel2 hb3
      have hx3 := hx2.ext hb3
      have hd3 := h.below hbel3
      clear hx2 hp2 hy2 hb3 hs3 hz3 hw h10
      have hcx := hx3.cell
      have hf := mfree_any m a c w3 hd3
      rw [hf0] at hf
      go_wp2_with fail
      refine hf.mono ?_
      rintro e w4 ⟨rfl, hb4⟩
      go_wp2
      go_ret
      exact ⟨rfl, below_next hbel3 hb4⟩
    · have hT : takeM m p file index = noM := by unfold takeM; rw [if_neg hw]
      have hn : (takeE m p file index != 0) = true := by simpa using hw
      have hn2 : (takeE m p file index == 10) = false := by simpa using h10
      rw [hT] at hy2 ⊢
      have hl0 : ((noM.fs.length : Nat) : Int) = 0 := rfl
      clear hT hy2
      go_wp2
      go_ret
      exact ⟨rfl, hbel2.alloc hbel2.size _⟩
end Go.Proofs.Ytohbfjbcfibhcaa
