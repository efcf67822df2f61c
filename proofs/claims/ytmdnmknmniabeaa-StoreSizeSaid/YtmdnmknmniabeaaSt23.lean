/- The law StoreSize, walked. -/
import Derived.Test.YtmdnmknmniabeaaSt5
import Derived.Test.YtmdnmknmniabeaaSt16
import Derived.Test.YtmdnmknmniabeaaSt20
import Derived.Test.YtmdnmknmniabeaaSt21
namespace Go.Proofs.Ytmdnmknmniabeaa
open Go.RowKit Go.Maps Pw
set_option linter.unusedSimpArgs false
set_option linter.unusedVariables false

/-- What is read of a file, by its number. -/
theorem file_at {w : World} {a : Option Addr} {ps : List PF} (h : RdV w a (ps.flatMap pfL)) {F : Nat} {p : PF} (hp : ps[F]? = some p) : ∃ b off, a = some ⟨b, off, none⟩ ∧ w.cell? ⟨b, off + F * 2, none⟩ = some (.int .i64 p.n) ∧ w.cell? ⟨b, off + F * 2 + 1, none⟩ = some (.slice p.a p.l.length p.c) := by
  have hF := (List.getElem?_eq_some_iff.1 hp).1
  obtain ⟨b, off, p', e, h1, h2, h3⟩ := pf_at h F hF
  rw [hp] at h1
  cases h1
  exact ⟨b, off, e, h2, h3⟩
/-- A slice of a slice, from O to O + 1. -/
theorem run_slice_one {P : Program} {ρ : Operand → Value} {o : Oper} {w : World} {t : TypeId} {x l h : Operand} {b off n c O sz : Nat} (ho : o.op = .slice t x (some l) (some h) none) (hx : ρ x = .slice (some ⟨b, off, none⟩) n c) (hl : ρ l = .int .i64 O) (hh : ρ h = .int .i64 ((O : Int) + 1))
    (ht : P.underlying t = some (.slice (P.elem t))) (hs : (P.info? (P.elem t)).map (·.size) = some sz) (hO : O < n) (hn : n ≤ c) :
    (execOp ρ o).run P w = .ok (.value (.slice (some ⟨b, off + O * sz, none⟩) 1 (c - O))) w := by
  have hsz : (Go.sizeOf (P.elem t)).run P w = .ok sz w := by
    cases hq : P.info? (P.elem t) with
    | none => simp [hq] at hs
    | some i =>
      have hz : i.size = sz := by simpa [hq] using hs
      simp [Go.sizeOf, typeInfo, run_program, hq, hz]
  unfold execOp
  simp only [ho, hx, hl, hh, Option.map]
  rw [Sem.run_bind, run_sliceAt_slice w t _ _ _ _ ht, run_slice_lh w t _ n c ht .i64 .i64 O (O + 1) (by omega) (by omega) (by omega), hsz]
  have e1 : ((O : Int) + 1).toNat - (O : Int).toNat = 1 := by omega
  simp [sliced, e1, Addr.add, show ¬ c = O by omega, go_sem]
theorem run_build' {P : Program} {ρ : Operand → Value} {o : Oper} {w : World} {t : TypeId} {x : Operand} {v : Value} {cs : Array Value} (ho : o.op = .build t #[(0, x)]) (hx : ρ x = v) (h : P.built t [(0, v)] = some cs) : (execOp ρ o).run P w = .ok (.value (.agg cs)) w :=
  Pw.run_build ho (qs := #[(0, v)]) (by simp [hx]) (Go.run_build w t _ _ h)
/-- A part of the files: one. -/
theorem fs_one {w : World} {b off c : Nat} {ps : List PF} (h : FsR w (some ⟨b, off, none⟩) c ps) {O : Nat} {p : PF} (hp : ps[O]? = some p) : FsR w (some ⟨b, off + O * 2, none⟩) (c - O) [p] := by
  have hO := (List.getElem?_eq_some_iff.1 hp).1
  have hle := h.le
  have hmx := h.mx
  refine ⟨by simp; omega, by omega, (fun e => by cases e), ?_, fun q hq => by rw [List.mem_singleton.1 hq]; exact h.good p (List.mem_of_getElem? hp)⟩
  obtain ⟨b', off', e, c0, c1⟩ := file_at h.rd hp
  cases e
  intro i u hi
  refine ⟨b, off + O * 2, rfl, ?_⟩
  match i, hi with
  | 0, hi => cases hi; exact c0
  | 1, hi => cases hi; exact c1
  | n + 2, hi => simp [pfL, pfC] at hi
set_option maxHeartbeats 4000000 in
set_option maxRecDepth 100000 in
theorem store_size_law (ps : List PF) (k file n other : Int) (a : Option Addr) (c : Nat) (w : World) (h : FsR w a c ps) (hk64 : -9223372036854775808 ≤ k ∧ k ≤ 9223372036854775807) :
    Calls Try.prog 8 #[.agg (stC a ps.length c k), .int .i64 file, .int .i64 n, .int .i64 other] w fun r w' => r = .returned (.bool true) ∧ Below w.heap.size w w' := by
  have hlc := Nat.le_trans h.le h.mx
  unfold maxLen at hlc
  unfold stC
  go_enter Try.func8, Try.ntmps8
  go_upto_region 1 with (fail)
  refine abs1 (fun W => Code.wp _ _ _ _ W) fun W0 hb0 hx0 hs0 => ?_
  clear hs0
  go_wp2_with fail
  refine (salive_any _).mono ?_
  rintro r w1 ⟨rfl, hb1⟩
  have hbel1 := below_next hb0 hb1
  have hx1 := hx0.ext hb1
  clear hb0 hx0 hb1
  go_wp2_with (refine wpList_ldg _ _ rfl _ 0 rfl rfl _ hx1.rd _ Try.underlying47 rfl store_size ?_)
  refine (ssize_any ps k file n a c _ (h.below hbel1) hk64).mono ?_
  rintro r w2 ⟨v2, qs, k2, rfl, hO2, hst0, hb2⟩
  have hst := Lib.hid hst0
  obtain ⟨a2, c2, rfl, hR2⟩ := hO2.rd
  have hbel2 := below_next hbel1 hb2
  have hx2 := hx1.ext hb2
  clear hst0 hbel1 hx1 hb2 hO2
  go_wp2_with (refine wpList_stn rfl _ _ _ rfl #[.slice a2 qs.length c2, .int .i64 k2] rfl rfl rfl store_size (sl_in _ _ _ _) ?_)
  intro w3 hb3 ho3
  have hbel3 := below_next hbel2 hb3
  have hx3 := hx2.ext hb3
  have hR3 := hR2.below hb3
  clear hbel2 hx2 hb3 hR2
  by_cases h0 : sizeE (stOf ps k) file n = 0
  · obtain ⟨hw, F, f, rfl, hf, hn0, hn96, hs⟩ := size_parts h0
    have hright := Lib.hid (size_right h0)
    rw [h0]
    clear h0
    obtain ⟨p, hp, hpf⟩ : ∃ p, ps[F]? = some p ∧ p.fi = f := by
      simp only [stOf, List.getElem?_map, Option.map_eq_some_iff] at hf
      exact hf
    have hF := (List.getElem?_eq_some_iff.1 hp).1
    have hk2 : 0 ≤ k2 ∧ k2 ≤ 80 := by
      have := (wrongSt_few hright.out).2
      rw [← hst.out] at this
      exact this
    have hfs : qs.map PF.fi = (ps.map PF.fi).set F ⟨n, resized p.l (countS n).toNat⟩ := by
      have h1 := congrArg St.fs hst.out
      rw [hs] at h1
      rw [← hpf] at h1
      exact h1
    have hql : qs.length = ps.length := by have := congrArg List.length hfs; simpa using this
    obtain ⟨q, hq, hqf⟩ : ∃ q, qs[F]? = some q ∧ q.fi = ⟨n, resized p.l (countS n).toNat⟩ := by
      have h1 := congrArg (·[F]?) hfs
      simp only [List.getElem?_map, List.getElem?_set, if_true] at h1
      rw [if_pos (by simpa using hF)] at h1
      exact Option.map_eq_some_iff.1 h1
    have hqn : q.n = n := congrArg Fi.n hqf
    have hqb : q.l = resized p.l (countS n).toNat := congrArg Fi.b hqf
    have hoth : ∀ o : Nat, o ≠ F → (qs[o]?).map PF.fi = (ps[o]?).map PF.fi := by
      intro o ho
      have h1 := congrArg (·[o]?) hfs
      simp only [List.getElem?_map, List.getElem?_set] at h1
      rw [if_neg (Ne.symm ho)] at h1
      exact h1
    have hqlen : (q.l.length : Int) = countS n := by rw [hqb, resized_len]; have := countS_nn n; omega
    obtain ⟨b2, off2, rfl, q0, q1⟩ := file_at hR3.rd hq
    rw [hqn] at q0
    have hFq : F < qs.length := by omega
    have hw2 : Hid (wrongSt (stOf qs k2) = 0) := Lib.hid (by rw [hst.out]; exact hright.out)
    have hcell0 : ∀ {W}, Below w3.heap.size w3 W → W.cell? ⟨w2.heap.size, 0, none⟩ = some (.slice (some ⟨b2, off2, none⟩) qs.length c2) := fun hb => (ho3.ext hb).cell 0
    go_upto_region 6 with (fail)
    refine wp_grow 25 [isV (.agg #[.slice (some ⟨b2, off2, none⟩) qs.length c2, .int .i64 k2]), isV (.int .i64 0), isV (.bool false), isV (.bool false), isV (.pointer (some ⟨w2.heap.size, 0, none⟩)), isV (.slice (some ⟨b2, off2, none⟩) qs.length c2), isV (.int .i64 F), isV (.pointer (some ⟨b2, off2 + F * 2, none⟩)), isV (.pointer (some ⟨b2, off2 + F * 2, none⟩)), isV (.int .i64 n), isV (.int .i64 n), isV (.bool false), isV (.bool false), isV (.bool false), isV (.pointer (some ⟨w2.heap.size, 0, none⟩)), isV (.slice (some ⟨b2, off2, none⟩) qs.length c2), isV (.int .i64 F), isV (.pointer (some ⟨b2, off2 + F * 2, none⟩)), isV (.pointer (some ⟨b2, off2 + F * 2 + 1, none⟩)), isV (.slice q.a q.l.length q.c), isV (.int .i64 (q.l.length : Int)), isV (.int .i64 n), isV (.int .i64 (countS n)), isV (.bool false), isV (.bool false)] (by kernel_rfl) (by kernel_rfl) (by kernel_rfl) (by decide) _ rfl (by kernel_rfl) (all_cons ?_ (all_cons ?_ (all_cons ?_ (all_cons ?_ (all_cons ?_ (all_cons ?_ (all_cons ?_ (all_cons ?_ (all_cons ?_ (all_cons ?_ (all_cons ?_ (all_cons ?_ (all_cons ?_ (all_cons ?_ (all_cons ?_ (all_cons ?_ (all_cons ?_ (all_cons ?_ (all_cons ?_ (all_cons ?_ (all_cons ?_ (all_cons ?_ (all_cons ?_ (all_cons ?_ (all_cons ?_ (all_nil)))))))))))))))))))))))))) ?_
    · intro ρ y W hw hn hb hd
      have E9 : ρ (.tmp 9) = .pointer (some ⟨w2.heap.size, 0, none⟩) := (hn (.tmp 9) rfl).trans rfl
      refine asked_val (.agg #[.slice (some ⟨b2, off2, none⟩) qs.length c2, .int .i64 k2]) (want_free rfl) (run_load_blk rfl E9 (ho3.ext hb) Try.underlying47 rfl store_size) rfl
    · intro ρ y W hw hn hb hd
      have E24 := hw 24 0 rfl
      have h0 : y 0 = .agg #[.slice (some ⟨b2, off2, none⟩) qs.length c2, .int .i64 k2] := hd 0 rfl
      have EF : ∀ f, ρ (.func f) = .func (.func f) #[] #[] := fun f => hn (.func f) trivial
      refine asked_call _ _ (want_free rfl) (run_call rfl (EF _) Try.func29 (by kernel_rfl) (by kernel_rfl) (by simp only [List.map_toArray, List.map_cons, List.map_nil, E24, h0, EF]; rfl)) ?_
      refine (swrong_any qs k2 _ c2 W (hR3.below hb) (by omega)).mono ?_
      rintro r w1 ⟨rfl, hb1⟩
      rw [hw2.out]
      exact ⟨_, rfl, hb1, rfl⟩
    · intro ρ y W hw hn hb hd
      have E25 := hw 25 1 rfl
      have h1 : y 1 = .int .i64 0 := hd 1 rfl
      refine asked_val (.bool false) (want_free rfl) (run_bin rfl (E25.trans h1) (hn (.const _) trivial) (by simp [go_sem])) rfl
    · intro ρ y W hw hn hb hd
      have E26 := hw 26 2 rfl
      have h2 : y 2 = .bool false := hd 2 rfl
      refine asked_val (.bool false) (want_free rfl) (run_move (.inl rfl) (E26.trans h2)) rfl
    · intro ρ y W hw hn hb hd
      have E9 : ρ (.tmp 9) = .pointer (some ⟨w2.heap.size, 0, none⟩) := (hn (.tmp 9) rfl).trans rfl
      refine asked_val (.pointer (some ⟨w2.heap.size, 0, none⟩)) (want_at 3 27 false false rfl rfl ((hw 27 3 rfl).trans (hd 3 rfl))) (by simp [execOp, go_sem, E9]) rfl
    · intro ρ y W hw hn hb hd
      have E28 := hw 28 4 rfl
      have h4 : y 4 = .pointer (some ⟨w2.heap.size, 0, none⟩) := hd 4 rfl
      have hc0 := hcell0 hb
      refine asked_val (.slice (some ⟨b2, off2, none⟩) qs.length c2) (want_at 3 27 false false rfl rfl ((hw 27 3 rfl).trans (hd 3 rfl))) (by simp [execOp, go_sem, E28, h4, hc0]) rfl
    · intro ρ y W hw hn hb hd
      have E1 : ρ (.tmp 1) = .int .i64 F := (hn (.tmp 1) rfl).trans rfl
      refine asked_val (.int .i64 F) (want_at 3 27 false false rfl rfl ((hw 27 3 rfl).trans (hd 3 rfl))) (run_move (.inl rfl) E1) rfl
    · intro ρ y W hw hn hb hd
      have E29 := hw 29 5 rfl
      have h5 : y 5 = .slice (some ⟨b2, off2, none⟩) qs.length c2 := hd 5 rfl
      have E30 := hw 30 6 rfl
      have h6 : y 6 = .int .i64 F := hd 6 rfl
      refine asked_val (.pointer (some ⟨b2, off2 + F * 2, none⟩)) (want_at 3 27 false false rfl rfl ((hw 27 3 rfl).trans (hd 3 rfl))) (by simp [execOp, go_sem, E29, h5, E30, h6, hFq]) rfl
    · intro ρ y W hw hn hb hd
      have E31 := hw 31 7 rfl
      have h7 : y 7 = .pointer (some ⟨b2, off2 + F * 2, none⟩) := hd 7 rfl
      refine asked_val (.pointer (some ⟨b2, off2 + F * 2, none⟩)) (want_at 3 27 false false rfl rfl ((hw 27 3 rfl).trans (hd 3 rfl))) (by simp [execOp, go_sem, E31, h7]) rfl
    · intro ρ y W hw hn hb hd
      have E32 := hw 32 8 rfl
      have h8 : y 8 = .pointer (some ⟨b2, off2 + F * 2, none⟩) := hd 8 rfl
      have hc0 := cell_later hb q0
      refine asked_val (.int .i64 n) (want_at 3 27 false false rfl rfl ((hw 27 3 rfl).trans (hd 3 rfl))) (by simp [execOp, go_sem, E32, h8, hc0]) rfl
    · intro ρ y W hw hn hb hd
      have E2 : ρ (.tmp 2) = .int .i64 n := (hn (.tmp 2) rfl).trans rfl
      refine asked_val (.int .i64 n) (want_at 3 27 false false rfl rfl ((hw 27 3 rfl).trans (hd 3 rfl))) (run_move (.inl rfl) E2) rfl
    · intro ρ y W hw hn hb hd
      have E33 := hw 33 9 rfl
      have h9 : y 9 = .int .i64 n := hd 9 rfl
      have E34 := hw 34 10 rfl
      have h10 : y 10 = .int .i64 n := hd 10 rfl
      refine asked_val (.bool false) (want_at 3 27 false false rfl rfl ((hw 27 3 rfl).trans (hd 3 rfl))) (run_bin rfl (E33.trans h9) (E34.trans h10) (by simp [go_sem])) rfl
    · intro ρ y W hw hn hb hd
      have E27 := hw 27 3 rfl
      have h3 : y 3 = .bool false := hd 3 rfl
      have E35 := hw 35 11 rfl
      have h11 : y 11 = .bool false := hd 11 rfl
      refine asked_val (.bool false) (want_free rfl) (run_pick rfl (E27.trans h3) (by first | simpa using (E35.trans h11) | exact (hn (.const _) trivial).trans rfl)) rfl
    · intro ρ y W hw hn hb hd
      have E36 := hw 36 12 rfl
      have h12 : y 12 = .bool false := hd 12 rfl
      refine asked_val (.bool false) (want_free rfl) (run_move (.inl rfl) (E36.trans h12)) rfl
    · intro ρ y W hw hn hb hd
      have E9 : ρ (.tmp 9) = .pointer (some ⟨w2.heap.size, 0, none⟩) := (hn (.tmp 9) rfl).trans rfl
      refine asked_val (.pointer (some ⟨w2.heap.size, 0, none⟩)) (want_at 13 37 false false rfl rfl ((hw 37 13 rfl).trans (hd 13 rfl))) (by simp [execOp, go_sem, E9]) rfl
    · intro ρ y W hw hn hb hd
      have E38 := hw 38 14 rfl
      have h14 : y 14 = .pointer (some ⟨w2.heap.size, 0, none⟩) := hd 14 rfl
      have hc0 := hcell0 hb
      refine asked_val (.slice (some ⟨b2, off2, none⟩) qs.length c2) (want_at 13 37 false false rfl rfl ((hw 37 13 rfl).trans (hd 13 rfl))) (by simp [execOp, go_sem, E38, h14, hc0]) rfl
    · intro ρ y W hw hn hb hd
      have E1 : ρ (.tmp 1) = .int .i64 F := (hn (.tmp 1) rfl).trans rfl
      refine asked_val (.int .i64 F) (want_at 13 37 false false rfl rfl ((hw 37 13 rfl).trans (hd 13 rfl))) (run_move (.inl rfl) E1) rfl
    · intro ρ y W hw hn hb hd
      have E39 := hw 39 15 rfl
      have h15 : y 15 = .slice (some ⟨b2, off2, none⟩) qs.length c2 := hd 15 rfl
      have E40 := hw 40 16 rfl
      have h16 : y 16 = .int .i64 F := hd 16 rfl
      refine asked_val (.pointer (some ⟨b2, off2 + F * 2, none⟩)) (want_at 13 37 false false rfl rfl ((hw 37 13 rfl).trans (hd 13 rfl))) (by simp [execOp, go_sem, E39, h15, E40, h16, hFq]) rfl
    · intro ρ y W hw hn hb hd
      have E41 := hw 41 17 rfl
      have h17 : y 17 = .pointer (some ⟨b2, off2 + F * 2, none⟩) := hd 17 rfl
      refine asked_val (.pointer (some ⟨b2, off2 + F * 2 + 1, none⟩)) (want_at 13 37 false false rfl rfl ((hw 37 13 rfl).trans (hd 13 rfl))) (by simp [execOp, go_sem, E41, h17]) rfl
    · intro ρ y W hw hn hb hd
      have E42 := hw 42 18 rfl
      have h18 : y 18 = .pointer (some ⟨b2, off2 + F * 2 + 1, none⟩) := hd 18 rfl
      have hc0 := cell_later hb q1
      refine asked_val (.slice q.a q.l.length q.c) (want_at 13 37 false false rfl rfl ((hw 37 13 rfl).trans (hd 13 rfl))) (by simp [execOp, go_sem, E42, h18, hc0]) rfl
    · intro ρ y W hw hn hb hd
      have E43 := hw 43 19 rfl
      have h19 : y 19 = .slice q.a q.l.length q.c := hd 19 rfl
      refine asked_val (.int .i64 (q.l.length : Int)) (want_at 13 37 false false rfl rfl ((hw 37 13 rfl).trans (hd 13 rfl))) (run_lenS rfl (E43.trans h19) Try.underlying36) rfl
    · intro ρ y W hw hn hb hd
      have E2 : ρ (.tmp 2) = .int .i64 n := (hn (.tmp 2) rfl).trans rfl
      refine asked_val (.int .i64 n) (want_at 13 37 false false rfl rfl ((hw 37 13 rfl).trans (hd 13 rfl))) (run_move (.inl rfl) E2) rfl
    · intro ρ y W hw hn hb hd
      have E45 := hw 45 21 rfl
      have h21 : y 21 = .int .i64 n := hd 21 rfl
      have EF : ∀ f, ρ (.func f) = .func (.func f) #[] #[] := fun f => hn (.func f) trivial
      refine asked_call _ _ (want_at 13 37 false false rfl rfl ((hw 37 13 rfl).trans (hd 13 rfl))) (run_call rfl (EF _) Try.func42 (by kernel_rfl) (by kernel_rfl) (by simp only [List.map_toArray, List.map_cons, List.map_nil, E45, h21, EF]; rfl)) ?_
      refine (count_any n W (by omega)).mono ?_
      rintro r w1 ⟨rfl, rfl⟩
      exact ⟨_, rfl, Below.refl _ _, rfl⟩
    · intro ρ y W hw hn hb hd
      have E44 := hw 44 20 rfl
      have h20 : y 20 = .int .i64 (q.l.length : Int) := hd 20 rfl
      have E46 := hw 46 22 rfl
      have h22 : y 22 = .int .i64 (countS n) := hd 22 rfl
      refine asked_val (.bool false) (want_at 13 37 false false rfl rfl ((hw 37 13 rfl).trans (hd 13 rfl))) (run_bin rfl (E44.trans h20) (E46.trans h22) (by simp [go_sem, hqlen])) rfl
    · intro ρ y W hw hn hb hd
      have E37 := hw 37 13 rfl
      have h13 : y 13 = .bool false := hd 13 rfl
      have E47 := hw 47 23 rfl
      have h23 : y 23 = .bool false := hd 23 rfl
      refine asked_val (.bool false) (want_free rfl) (run_pick rfl (E37.trans h13) (by first | simpa using (E47.trans h23) | exact (hn (.const _) trivial).trans rfl)) rfl
    intro y WA hbWA hRWA
    have hy0 : y 0 = .agg #[.slice (some ⟨b2, off2, none⟩) qs.length c2, .int .i64 k2] := hRWA 0 (by decide)
    have hy1 : y 1 = .int .i64 0 := hRWA 1 (by decide)
    have hy2 : y 2 = .bool false := hRWA 2 (by decide)
    have hy3 : y 3 = .bool false := hRWA 3 (by decide)
    have hy4 : y 4 = .pointer (some ⟨w2.heap.size, 0, none⟩) := hRWA 4 (by decide)
    have hy5 : y 5 = .slice (some ⟨b2, off2, none⟩) qs.length c2 := hRWA 5 (by decide)
    have hy6 : y 6 = .int .i64 F := hRWA 6 (by decide)
    have hy7 : y 7 = .pointer (some ⟨b2, off2 + F * 2, none⟩) := hRWA 7 (by decide)
    have hy8 : y 8 = .pointer (some ⟨b2, off2 + F * 2, none⟩) := hRWA 8 (by decide)
    have hy9 : y 9 = .int .i64 n := hRWA 9 (by decide)
    have hy10 : y 10 = .int .i64 n := hRWA 10 (by decide)
    have hy11 : y 11 = .bool false := hRWA 11 (by decide)
    have hy12 : y 12 = .bool false := hRWA 12 (by decide)
    have hy13 : y 13 = .bool false := hRWA 13 (by decide)
    have hy14 : y 14 = .pointer (some ⟨w2.heap.size, 0, none⟩) := hRWA 14 (by decide)
    have hy15 : y 15 = .slice (some ⟨b2, off2, none⟩) qs.length c2 := hRWA 15 (by decide)
    have hy16 : y 16 = .int .i64 F := hRWA 16 (by decide)
    have hy17 : y 17 = .pointer (some ⟨b2, off2 + F * 2, none⟩) := hRWA 17 (by decide)
    have hy18 : y 18 = .pointer (some ⟨b2, off2 + F * 2 + 1, none⟩) := hRWA 18 (by decide)
    have hy19 : y 19 = .slice q.a q.l.length q.c := hRWA 19 (by decide)
    have hy20 : y 20 = .int .i64 (q.l.length : Int) := hRWA 20 (by decide)
    have hy21 : y 21 = .int .i64 n := hRWA 21 (by decide)
    have hy22 : y 22 = .int .i64 (countS n) := hRWA 22 (by decide)
    have hy23 : y 23 = .bool false := hRWA 23 (by decide)
    have hy24 : y 24 = .bool false := hRWA 24 (by decide)
    clear hRWA
    simp only [lay, Nat.reduceAdd, Nat.reduceLT, decide_true, decide_false, if_true, Bool.false_eq_true, if_false, List.setIfInBounds_toArray, List.set_cons_zero, List.set_cons_succ, List.drop_succ_cons, List.drop_zero, List.drop_nil, hy0, hy1, hy2, hy3, hy4, hy5, hy6, hy7, hy8, hy9, hy10, hy11, hy12, hy13, hy14, hy15, hy16, hy17, hy18, hy19, hy20, hy21, hy22, hy23, hy24]
    clear hy0 hy1 hy2 hy3 hy4 hy5 hy6 hy7 hy8 hy9 hy10 hy11 hy12 hy13 hy14 hy15 hy16 hy17 hy18 hy19 hy20 hy21 hy22 hy23 hy24
    have hbelA := below_next hbel3 hbWA
    have hxA := hx3.ext hbWA
    have hoA := ho3.ext hbWA
    have hRA := hR3.below hbWA
    have q0A := cell_later hbWA q0
    have q1A := cell_later hbWA q1
    have hqlen' := Lib.hid hqlen
    have hqb' := Lib.hid hqb
    have hql' := Lib.hid hql
    have hoth' := Lib.hid hoth
    clear hbel3 hx3 ho3 hR3 q0 q1 hcell0 hst hright hw2 hqlen hqn hqf hfs hs hf hpf hoth
    have hco := hoA.cell
    have hFqi : (F : Int) < (qs.length : Int) := by omega
    clear hql hqb
    have hqle := Nat.le_trans (hRA.good q (List.mem_of_getElem? hq)).le (hRA.good q (List.mem_of_getElem? hq)).mx
    unfold maxLen at hqle
    go_upto_region 9 with (fail)
    clear hco
    obtain ⟨b1, off1, rfl, _, _⟩ := file_at h.rd hp
    have hFp : F < ps.length := hF
    have hFpi : (F : Int) < (ps.length : Int) := by omega
    have hple := Nat.le_trans (h.good p (List.mem_of_getElem? hp)).le (h.good p (List.mem_of_getElem? hp)).mx
    unfold maxLen at hple
    go_loopw [56, 11, 12] (fun i _ _ wr => ∃ j : Nat, j ≤ q.l.length ∧ i = .int .i64 j ∧ Below w.heap.size w wr ∧ Blk wr w.heap.size #[.slice (some ⟨b1, off1, none⟩) ps.length c, .int .i64 k] 47 ∧ Blk wr w2.heap.size #[.slice (some ⟨b2, off2, none⟩) qs.length c2, .int .i64 k2] 47 ∧ FsR wr (some ⟨b2, off2, none⟩) c2 qs) (fun i _ _ _ => q.l.length - (intOf i).toNat)
    case atStart => exact ⟨0, Nat.zero_le _, rfl, hbelA, hxA, hoA, hRA⟩
    case round =>
      clear hbelA hxA hoA hRA q0A q1A
      obtain ⟨j, hj, rfl, hbr, hxr, hor, hRr⟩ := hrel
      have hcx := hxr.cell
      have hco := hor.cell
      by_cases hlt : j < q.l.length
      · have hlti : (j : Int) < (q.l.length : Int) := by omega
        obtain ⟨b9, off9, hqa, hc9⟩ := elem_at (hRr.good q (List.mem_of_getElem? hq)).rd j hlt
        obtain ⟨b1', off1', e1, p0, p1⟩ := file_at (h.below hbr).rd hp
        cases e1
        have hqj : q.l[j] = p.l.getD j (-1) := by
          have h1 := resized_at (b := p.l) (kk := (countS n).toNat) (i := j) (by rw [hqb'.out, resized_len] at hlt; exact hlt)
          rw [← hqb'.out, List.getElem?_eq_getElem hlt] at h1
          exact Option.some.inj h1
        rw [hqj] at hc9
        rw [hqa]
        clear hqa
        by_cases hjp : j < p.l.length
        · have hjpi : (j : Int) < (p.l.length : Int) := by omega
          obtain ⟨b8, off8, hpa, hc8⟩ := elem_at ((h.good p (List.mem_of_getElem? hp)).rd.below hbr) j hjp
          have hv : p.l.getD j (-1) = p.l[j] := by simp [List.getD_eq_getElem?_getD, List.getElem?_eq_getElem hjp]
          rw [hv] at hc9
          clear hv hqj
          go_wp2
          go_roundw
          case measure => simp [intOf]; omega
          case rel => exact ⟨j + 1, by omega, by go_num, hbr, hxr, hor, hRr⟩
        · have hjpi : ¬ (j : Int) < (p.l.length : Int) := by omega
          have hv : p.l.getD j (-1) = -1 := by simp [List.getD_eq_getElem?_getD, List.getElem?_eq_none (show p.l.length ≤ j by omega)]
          rw [hv] at hc9
          clear hv hqj
          go_wp2
          go_roundw
          case measure => simp [intOf]; omega
          case rel => exact ⟨j + 1, by omega, by go_num, hbr, hxr, hor, hRr⟩
      · obtain rfl : j = q.l.length := by omega
        by_cases h1 : other < 0
        · go_wp2
          go_ret
          exact ⟨rfl, hbr⟩
        · by_cases h2 : (ps.length : Int) ≤ other
          · go_wp2
            go_ret
            exact ⟨rfl, hbr⟩
          · by_cases h3 : other = F
            · subst h3
              go_wp2
              go_ret
              exact ⟨rfl, hbr⟩
            · obtain ⟨O, rfl⟩ : ∃ O : Nat, other = O := ⟨other.toNat, by omega⟩
              have hO : O < ps.length := by omega
              have h3' : ((O : Int) == (F : Int)) = false := by simpa using h3
              have hOF : O ≠ F := by omega
              obtain ⟨po, hpo⟩ : ∃ po, ps[O]? = some po := ⟨_, List.getElem?_eq_getElem hO⟩
              have hoth := hoth'.out O hOF
              rw [hpo] at hoth
              obtain ⟨qo, hqo, hfo⟩ := Option.map_eq_some_iff.1 hoth
              have hsm : Hid (stOf [po] 0 = stOf [qo] 0) := Lib.hid (by unfold stOf; simp only [List.map_cons, List.map_nil, hfo])
              have hqle' := hRr.le
              have hple' := h.le
              have hOq : O < qs.length := (List.getElem?_eq_some_iff.1 hqo).1
              clear hoth hfo hlt
              go_upto_region 16 with (fail)
              have hwr : IntKind.i64.wrap ((O : Int) + 1) = (O : Int) + 1 := IntWalk.i64_in _ (by omega)
              have hrr := hor.lt
              refine wp_grow 16 [isV (.pointer (some ⟨w.heap.size, 0, none⟩)), isV (.slice (some ⟨b1, off1, none⟩) ps.length c), isV (.int .i64 O), isV (.int .i64 O), isV (.int .i64 ((O : Int) + 1)), isV (.slice (some ⟨b1, off1 + O * 2, none⟩) 1 (c - O)), isV (.agg #[.slice (some ⟨b1, off1 + O * 2, none⟩) 1 (c - O), .int .i64 0]), isV (.pointer (some ⟨w2.heap.size, 0, none⟩)), isV (.slice (some ⟨b2, off2, none⟩) qs.length c2), isV (.int .i64 O), isV (.int .i64 O), isV (.int .i64 ((O : Int) + 1)), isV (.slice (some ⟨b2, off2 + O * 2, none⟩) 1 (c2 - O)), isV (.agg #[.slice (some ⟨b2, off2 + O * 2, none⟩) 1 (c2 - O), .int .i64 0]), isV (.bool true), isV (.bool true)] (by kernel_rfl) (by kernel_rfl) (by kernel_rfl) (by decide) _ rfl (by kernel_rfl) (all_cons ?_ (all_cons ?_ (all_cons ?_ (all_cons ?_ (all_cons ?_ (all_cons ?_ (all_cons ?_ (all_cons ?_ (all_cons ?_ (all_cons ?_ (all_cons ?_ (all_cons ?_ (all_cons ?_ (all_cons ?_ (all_cons ?_ (all_cons ?_ (all_nil))))))))))))))))) ?_
              · intro ρ y W hw hn hb hd
                have E4 : ρ (.tmp 4) = .pointer (some ⟨w.heap.size, 0, none⟩) := (hn (.tmp 4) rfl).trans rfl
                refine asked_val (.pointer (some ⟨w.heap.size, 0, none⟩)) (want_free rfl) (by simp [execOp, go_sem, E4]) rfl
              · intro ρ y W hw hn hb hd
                have E113 := hw 113 0 rfl
                have h0 : y 0 = .pointer (some ⟨w.heap.size, 0, none⟩) := hd 0 rfl
                have hc0 := (hxr.ext hb).cell 0
                simp at hc0
                refine asked_val (.slice (some ⟨b1, off1, none⟩) ps.length c) (want_free rfl) (by simp [execOp, go_sem, E113, h0, hc0]) rfl
              · intro ρ y W hw hn hb hd
                have E3 : ρ (.tmp 3) = .int .i64 O := (hn (.tmp 3) rfl).trans rfl
                refine asked_val (.int .i64 O) (want_free rfl) (run_move (.inl rfl) E3) rfl
              · intro ρ y W hw hn hb hd
                have E3 : ρ (.tmp 3) = .int .i64 O := (hn (.tmp 3) rfl).trans rfl
                refine asked_val (.int .i64 O) (want_free rfl) (run_move (.inl rfl) E3) rfl
              · intro ρ y W hw hn hb hd
                have E116 := hw 116 3 rfl
                have h3 : y 3 = .int .i64 O := hd 3 rfl
                refine asked_val (.int .i64 ((O : Int) + 1)) (want_free rfl) (run_bin rfl (E116.trans h3) (hn (.const _) trivial) (by simp [go_sem, hwr])) rfl
              · intro ρ y W hw hn hb hd
                have E114 := hw 114 1 rfl
                have h1 : y 1 = .slice (some ⟨b1, off1, none⟩) ps.length c := hd 1 rfl
                have E115 := hw 115 2 rfl
                have h2 : y 2 = .int .i64 O := hd 2 rfl
                have E117 := hw 117 4 rfl
                have h4 : y 4 = .int .i64 ((O : Int) + 1) := hd 4 rfl
                refine asked_val (.slice (some ⟨b1, off1 + O * 2, none⟩) 1 (c - O)) (want_free rfl) (run_slice_one rfl (E114.trans h1) (E115.trans h2) (E117.trans h4) Try.underlying45 file_size hO hple') rfl
              · intro ρ y W hw hn hb hd
                have E118 := hw 118 5 rfl
                have h5 : y 5 = .slice (some ⟨b1, off1 + O * 2, none⟩) 1 (c - O) := hd 5 rfl
                refine asked_val (.agg #[.slice (some ⟨b1, off1 + O * 2, none⟩) 1 (c - O), .int .i64 0]) (want_free rfl) (run_build' rfl (E118.trans h5) rfl) rfl
              · intro ρ y W hw hn hb hd
                have E9 : ρ (.tmp 9) = .pointer (some ⟨w2.heap.size, 0, none⟩) := (hn (.tmp 9) rfl).trans rfl
                refine asked_val (.pointer (some ⟨w2.heap.size, 0, none⟩)) (want_free rfl) (by simp [execOp, go_sem, E9]) rfl
              · intro ρ y W hw hn hb hd
                have E120 := hw 120 7 rfl
                have h7 : y 7 = .pointer (some ⟨w2.heap.size, 0, none⟩) := hd 7 rfl
                have hc0 := (hor.ext hb).cell 0
                simp at hc0
                refine asked_val (.slice (some ⟨b2, off2, none⟩) qs.length c2) (want_free rfl) (by simp [execOp, go_sem, E120, h7, hc0]) rfl
              · intro ρ y W hw hn hb hd
                have E3 : ρ (.tmp 3) = .int .i64 O := (hn (.tmp 3) rfl).trans rfl
                refine asked_val (.int .i64 O) (want_free rfl) (run_move (.inl rfl) E3) rfl
              · intro ρ y W hw hn hb hd
                have E3 : ρ (.tmp 3) = .int .i64 O := (hn (.tmp 3) rfl).trans rfl
                refine asked_val (.int .i64 O) (want_free rfl) (run_move (.inl rfl) E3) rfl
              · intro ρ y W hw hn hb hd
                have E123 := hw 123 10 rfl
                have h10 : y 10 = .int .i64 O := hd 10 rfl
                refine asked_val (.int .i64 ((O : Int) + 1)) (want_free rfl) (run_bin rfl (E123.trans h10) (hn (.const _) trivial) (by simp [go_sem, hwr])) rfl
              · intro ρ y W hw hn hb hd
                have E121 := hw 121 8 rfl
                have h8 : y 8 = .slice (some ⟨b2, off2, none⟩) qs.length c2 := hd 8 rfl
                have E122 := hw 122 9 rfl
                have h9 : y 9 = .int .i64 O := hd 9 rfl
                have E124 := hw 124 11 rfl
                have h11 : y 11 = .int .i64 ((O : Int) + 1) := hd 11 rfl
                refine asked_val (.slice (some ⟨b2, off2 + O * 2, none⟩) 1 (c2 - O)) (want_free rfl) (run_slice_one rfl (E121.trans h8) (E122.trans h9) (E124.trans h11) Try.underlying45 file_size hOq hqle') rfl
              · intro ρ y W hw hn hb hd
                have E125 := hw 125 12 rfl
                have h12 : y 12 = .slice (some ⟨b2, off2 + O * 2, none⟩) 1 (c2 - O) := hd 12 rfl
                refine asked_val (.agg #[.slice (some ⟨b2, off2 + O * 2, none⟩) 1 (c2 - O), .int .i64 0]) (want_free rfl) (run_build' rfl (E125.trans h12) rfl) rfl
              · intro ρ y W hw hn hb hd
                have E119 := hw 119 6 rfl
                have h6 : y 6 = .agg #[.slice (some ⟨b1, off1 + O * 2, none⟩) 1 (c - O), .int .i64 0] := hd 6 rfl
                have E126 := hw 126 13 rfl
                have h13 : y 13 = .agg #[.slice (some ⟨b2, off2 + O * 2, none⟩) 1 (c2 - O), .int .i64 0] := hd 13 rfl
                have EF : ∀ f, ρ (.func f) = .func (.func f) #[] #[] := fun f => hn (.func f) trivial
                refine asked_call _ _ (want_free rfl) (run_call rfl (EF _) Try.func31 (by kernel_rfl) (by kernel_rfl) (by simp only [List.map_toArray, List.map_cons, List.map_nil, E119, h6, E126, h13, EF]; rfl)) ?_
                refine (ssame_any [po] [qo] 0 0 _ _ (c - O) (c2 - O) W (fs_one (h.below (below_next hbr hb)) hpo) (fs_one (hRr.below hb) hqo)).mono ?_
                rintro r w1 ⟨rfl, hb1⟩
                rw [hsm.out, show sameSt (stOf [qo] 0) (stOf [qo] 0) = true from decide_eq_true rfl]
                exact ⟨_, rfl, hb1, rfl⟩
              · intro ρ y W hw hn hb hd
                have E127 := hw 127 14 rfl
                have h14 : y 14 = .bool true := hd 14 rfl
                refine asked_val (.bool true) (want_free rfl) (run_move (.inr rfl) (E127.trans h14)) rfl
              intro y WB hbWB hRWB
              have hy0 : y 0 = .pointer (some ⟨w.heap.size, 0, none⟩) := hRWB 0 (by decide)
              have hy1 : y 1 = .slice (some ⟨b1, off1, none⟩) ps.length c := hRWB 1 (by decide)
              have hy2 : y 2 = .int .i64 O := hRWB 2 (by decide)
              have hy3 : y 3 = .int .i64 O := hRWB 3 (by decide)
              have hy4 : y 4 = .int .i64 ((O : Int) + 1) := hRWB 4 (by decide)
              have hy5 : y 5 = .slice (some ⟨b1, off1 + O * 2, none⟩) 1 (c - O) := hRWB 5 (by decide)
              have hy6 : y 6 = .agg #[.slice (some ⟨b1, off1 + O * 2, none⟩) 1 (c - O), .int .i64 0] := hRWB 6 (by decide)
              have hy7 : y 7 = .pointer (some ⟨w2.heap.size, 0, none⟩) := hRWB 7 (by decide)
              have hy8 : y 8 = .slice (some ⟨b2, off2, none⟩) qs.length c2 := hRWB 8 (by decide)
              have hy9 : y 9 = .int .i64 O := hRWB 9 (by decide)
              have hy10 : y 10 = .int .i64 O := hRWB 10 (by decide)
              have hy11 : y 11 = .int .i64 ((O : Int) + 1) := hRWB 11 (by decide)
              have hy12 : y 12 = .slice (some ⟨b2, off2 + O * 2, none⟩) 1 (c2 - O) := hRWB 12 (by decide)
              have hy13 : y 13 = .agg #[.slice (some ⟨b2, off2 + O * 2, none⟩) 1 (c2 - O), .int .i64 0] := hRWB 13 (by decide)
              have hy14 : y 14 = .bool true := hRWB 14 (by decide)
              have hy15 : y 15 = .bool true := hRWB 15 (by decide)
              clear hRWB
              simp only [lay, Nat.reduceAdd, Nat.reduceLT, decide_true, decide_false, if_true, Bool.false_eq_true, if_false, List.setIfInBounds_toArray, List.set_cons_zero, List.set_cons_succ, List.drop_succ_cons, List.drop_zero, List.drop_nil, hy0, hy1, hy2, hy3, hy4, hy5, hy6, hy7, hy8, hy9, hy10, hy11, hy12, hy13, hy14, hy15]
              clear hy0 hy1 hy2 hy3 hy4 hy5 hy6 hy7 hy8 hy9 hy10 hy11 hy12 hy13 hy14 hy15
              have hbelB := below_next hbr hbWB
              go_wp2
              go_ret
              exact ⟨rfl, hbelB⟩
  · have h0' : (sizeE (stOf ps k) file n != 0) = true := by simpa using h0
    clear h0
    go_wp2
    go_ret
    exact ⟨rfl, hbel3⟩
end Go.Proofs.Ytmdnmknmniabeaa
