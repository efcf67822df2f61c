/- Package areas: Wrong, Find, Room, span, done. -/
import Derived.Test.YtmdnmknmniabeaaAr
namespace Go.Proofs.Ytmdnmknmniabeaa
open Go.RowKit Pw
set_option linter.unusedSimpArgs false
set_option linter.unusedVariables false

theorem ar_at {w : World} {a : Option Addr} {l : List Ar} (h : RdV w a (l.flatMap arL)) (k : Nat) (hk : k < l.length) : ∃ b off, a = some ⟨b, off, none⟩ ∧ ArAt w b (off + k * 7) l[k] := h.elem arL_len (by decide) k hk
theorem ar_at' {w : World} {b off : Nat} {l : List Ar} (h : RdV w (some ⟨b, off, none⟩) (l.flatMap arL)) (k : Nat) (hk : k < l.length) : ArAt w b (off + k * 7) l[k] := by
  obtain ⟨b', off', e, h1⟩ := ar_at h k hk
  cases e
  exact h1
/-- What is wrong behind an area, from place i on. -/
def wrongAt (p : Option Ar) (i : Nat) : List Ar → Int × Int
  | [] => (0, 0)
  | a :: r => if areaE a ≠ 0 then (areaE a, i) else if (match p with | some q => decide (a.fr < q.en) || joinsB q a | none => false) then (2, i) else wrongAt (some a) (i + 1) r
def wrongA (l : List Ar) : Int × Int := if 16 < l.length then (4, 0) else wrongAt none 0 l
def prevA (l : List Ar) (k : Nat) : Option Ar := if k = 0 then none else l[k - 1]?
theorem prevA_next {l : List Ar} {k : Nat} (hk : k < l.length) : prevA l (k + 1) = some l[k] := by simp [prevA, hk]
def badOn (p : Option Ar) (a : Ar) : Bool := match p with | some q => decide (a.fr < q.en) || joinsB q a | none => false
theorem wrongAt_cons (p : Option Ar) (i : Nat) (a : Ar) (r : List Ar) : wrongAt p i (a :: r) = if areaE a ≠ 0 then (areaE a, (i : Int)) else if badOn p a then (2, (i : Int)) else wrongAt (some a) (i + 1) r := rfl
theorem wrong_next {l : List Ar} {k : Nat} (hlt : k < l.length) (he : areaE l[k] = 0) (hno : badOn (prevA l k) l[k] = false) : wrongAt (prevA l k) k (l.drop k) = wrongAt (prevA l (k + 1)) (k + 1) (l.drop (k + 1)) := by
  rw [List.drop_eq_getElem_cons hlt, wrongAt_cons, if_neg (by rw [he]; simp), hno, prevA_next hlt]
  rfl
theorem wrong_stop {l : List Ar} {k : Nat} (hlt : k < l.length) (he : areaE l[k] = 0) (hno : badOn (prevA l k) l[k] = true) : wrongAt (prevA l k) k (l.drop k) = (2, (k : Int)) := by
  rw [List.drop_eq_getElem_cons hlt, wrongAt_cons, if_neg (by rw [he]; simp), hno]
  rfl
theorem wrong_bad {l : List Ar} {k : Nat} (hlt : k < l.length) (he : areaE l[k] ≠ 0) : wrongAt (prevA l k) k (l.drop k) = (areaE l[k], (k : Int)) := by
  rw [List.drop_eq_getElem_cons hlt, wrongAt_cons, if_pos he]
theorem bad_prev {l : List Ar} {m : Nat} (hm : m + 1 < l.length) : badOn (prevA l (m + 1)) l[m + 1] = (decide (l[m + 1].fr < l[m].en) || joinsB l[m] l[m + 1]) := by
  rw [prevA_next (show m < l.length by omega)]
  rfl
def fauC (e : Int × Int) : Array Value := #[.int .i64 e.1, .int .i64 e.2]
theorem fau_size : (Try.prog.info? 68).map (·.size) = some 2 := by kernel_rfl
theorem fau_one (x y : Int) : (#[Value.int .i64 x, Value.int .i64 y] : Array Value).all (·.oneCell') = true := by simp [Value.oneCell']
set_option maxHeartbeats 2000000 in
set_option maxRecDepth 100000 in
theorem awrong_any (l : List Ar) (a : Option Addr) (c : Nat) (w : World) (hrd : RdV w a (l.flatMap arL)) (hl : l.length ≤ 9223372036854775807) :
    Calls Try.prog 43 #[.slice a l.length c] w fun e w' => e = .returned (.agg (fauC (wrongA l))) ∧ Below w.heap.size w w' := by
  go_enter Try.func43, Try.ntmps43
  go_upto_region 1 with (fail)
  refine abs1 (fun W => Code.wp _ _ _ _ W) fun W0 hbel hres hs0 => ?_
  clear hs0
  by_cases h16 : 16 < l.length
  · have h16' : (16 : Int) < (l.length : Int) := by omega
    have hz : Hid (wrongA l = (4, 0)) := Lib.hid (by unfold wrongA; rw [if_pos h16])
    go_wp2_with (refine wpList_stw rfl _ _ _ rfl w.heap.size #[.int .i64 (4), .int .i64 (0)] rfl rfl _ _ hres rfl fau_size (fau_one _ _) ?_)
    intro w5 hr5 hgr5
    have hbel5 : Below w.heap.size w w5 := hbel.grown hgr5 hbel.size (fun k hk => by cases hk; exact Nat.le_refl _)
    go_wp2
    refine bodyPost_ret (v := .agg #[.int .i64 (4), .int .i64 (0)]) (results_c Try.results43 _ _ w.heap.size _ _ _ rfl hr5 Try.underlying68 rfl fau_size) rfl ?_
    exact ⟨by rw [hz.out]; rfl, hbel5⟩
  · have h16' : ¬ (16 : Int) < (l.length : Int) := by omega
    have h0 : Hid (wrongA l = wrongAt (prevA l 0) 0 (l.drop 0)) := Lib.hid (by unfold wrongA; rw [if_neg h16]; rfl)
    go_upto_region 4 with (fail)
    go_loopw [11] (fun i wr => ∃ k : Nat, k ≤ l.length ∧ i = .int .i64 k ∧ Below w.heap.size w wr ∧ Blk wr w.heap.size #[.int .i64 0, .int .i64 0] 68 ∧ (∀ i (h : i < l.length), i < k → areaE l[i] = 0) ∧ Hid (wrongA l = wrongAt (prevA l k) k (l.drop k))) (fun i _ => l.length - (intOf i).toNat)
    case atStart => exact ⟨0, Nat.zero_le _, rfl, hbel, hres, fun i _ h => absurd h (Nat.not_lt_zero _), h0⟩
    case round =>
      clear hbel hres h0
      obtain ⟨k, hk, rfl, hbel, hres, hp0, hst⟩ := hrel
      have hp := Lib.hid hp0
      clear hp0
      by_cases hlt : k < l.length
      · obtain ⟨b, off, rfl, hA⟩ := ar_at (hrd.below hbel) k hlt
        have hki : (k : Int) < (l.length : Int) := by omega
        go_wp2_with fail
        refine (area_any b (off + k * 7) l[k] _ hA).mono ?_
        rintro r w2 ⟨rfl, hb2⟩
        have hbel2 := below_next hbel hb2
        have hres2 := hres.ext hb2
        clear hbel hres hb2 hA
        by_cases he : areaE l[k] = 0
        · have he' := Lib.hid he
          rw [he]
          clear he
          go_upto_region 9 with (fail)
          by_cases hk0 : k = 0
          · subst hk0
            have hd0 : decide ((0 : Int) < ((0 : Nat) : Int)) = false := rfl
            have hnx : Hid (wrongA l = wrongAt (prevA l (0 + 1)) (0 + 1) (l.drop (0 + 1))) := Lib.hid (by rw [hst.out]; exact wrong_next hlt he'.out rfl)
            go_quiet (fail)
            go_wp2
            go_roundw
            case rel => exact ⟨0 + 1, by omega, by go_num, below_drewN hbel2 _, hres2.drewN _, upto' hp.out hlt he'.out, hnx⟩
            case measure => simp [intOf]; omega
          · obtain ⟨m, rfl⟩ : ∃ m, k = m + 1 := ⟨k - 1, by omega⟩
            have hd0 : decide ((0 : Int) < ((m + 1 : Nat) : Int)) = true := decide_eq_true (by omega)
            have hm1 : IntKind.i64.wrap (((m + 1 : Nat) : Int) - 1) = (m : Int) := by rw [IntWalk.i64_in _ (by omega)]; omega
            have hml : m < l.length := by omega
            have hm2 : IntKind.i64.wrap (m : Int) = (m : Int) := IntWalk.i64_in _ (by omega)
            have hg1 : (0 : Int) ≤ (m : Int) + 1 := by omega
            have hg2 : (m : Int) + 1 < (l.length : Int) := by omega
            have hg3 : ((m : Int) + 1).toNat = m + 1 := by omega
            have hbp := Lib.hid (bad_prev hlt)
            have hfm := (areaE_few (hp.out m hml (by omega))).1
            have hf1 := (areaE_few he'.out).1
            have hRd := hrd.below hbel2
            have hPk := ar_at' hRd (m + 1) hlt
            have hPm := ar_at' hRd m hml
            generalize hA1 : l[m + 1] = A1 at *
            generalize hA0 : l[m] = A0 at *
            by_cases hov : A1.fr < A0.en
            · have hz : Hid (wrongA l = (2, ((m + 1 : Nat) : Int))) := Lib.hid (by rw [hst.out]; exact wrong_stop hlt (by rw [hA1]; exact he'.out) (by rw [hA1, hbp.out, decide_eq_true hov]; rfl))
              refine wp_grow 26 [isV (.int .i64 ((m + 1 : Nat) : Int)), isV (.bool true), isV (.bool true), isV (.slice (some ⟨b, off, none⟩) l.length c), isV (.int .i64 ((m + 1 : Nat) : Int)), isV (.int .i64 (m : Int)), isV (.pointer (some ⟨b, off + m * 7, none⟩)), isV (.pointer (some ⟨b, off + m * 7 + 1, none⟩)), isV (.int .i64 A0.en), isV (.slice (some ⟨b, off, none⟩) l.length c), isV (.int .i64 ((m + 1 : Nat) : Int)), isV (.pointer (some ⟨b, off + (m + 1) * 7, none⟩)), isV (.pointer (some ⟨b, off + (m + 1) * 7, none⟩)), isV (.int .i64 A1.fr), isV (.bool true), isV (.bool true), isV (undef), isV (undef), isV (undef), isV (undef), isV (undef), isV (undef), isV (undef), isV (undef), isV (.bool true), isV (.bool true)] (by kernel_rfl) (by kernel_rfl) (by kernel_rfl) (by decide) _ rfl (by kernel_rfl) (all_cons ?_ (all_cons ?_ (all_cons ?_ (all_cons ?_ (all_cons ?_ (all_cons ?_ (all_cons ?_ (all_cons ?_ (all_cons ?_ (all_cons ?_ (all_cons ?_ (all_cons ?_ (all_cons ?_ (all_cons ?_ (all_cons ?_ (all_cons ?_ (all_cons ?_ (all_cons ?_ (all_cons ?_ (all_cons ?_ (all_cons ?_ (all_cons ?_ (all_cons ?_ (all_cons ?_ (all_cons ?_ (all_cons ?_ (all_nil))))))))))))))))))))))))))) ?_
              · intro ρ y W hw hn hb hd
                have E3 : ρ (.tmp 3) = .int .i64 ((m + 1 : Nat) : Int) := (hn (.tmp 3) rfl).trans rfl
                refine asked_val (.int .i64 ((m + 1 : Nat) : Int)) (want_free rfl) (run_move (.inl rfl) E3) rfl
              · intro ρ y W hw hn hb hd
                have E23 := hw 23 0 rfl
                have h0 : y 0 = .int .i64 ((m + 1 : Nat) : Int) := hd 0 rfl
                refine asked_val (.bool true) (want_free rfl) (run_bin rfl (E23.trans h0) (hn (.const _) trivial) (by simp [go_sem])) rfl
              · intro ρ y W hw hn hb hd
                have E24 := hw 24 1 rfl
                have h1 : y 1 = .bool true := hd 1 rfl
                refine asked_val (.bool true) (want_free rfl) (run_move (.inl rfl) (E24.trans h1)) rfl
              · intro ρ y W hw hn hb hd
                have E0 : ρ (.tmp 0) = .slice (some ⟨b, off, none⟩) l.length c := (hn (.tmp 0) rfl).trans rfl
                refine asked_val (.slice (some ⟨b, off, none⟩) l.length c) (want_at 2 25 true true rfl rfl ((hw 25 2 rfl).trans (hd 2 rfl))) (run_move (.inl rfl) E0) rfl
              · intro ρ y W hw hn hb hd
                have E3 : ρ (.tmp 3) = .int .i64 ((m + 1 : Nat) : Int) := (hn (.tmp 3) rfl).trans rfl
                refine asked_val (.int .i64 ((m + 1 : Nat) : Int)) (want_at 2 25 true true rfl rfl ((hw 25 2 rfl).trans (hd 2 rfl))) (run_move (.inl rfl) E3) rfl
              · intro ρ y W hw hn hb hd
                have E27 := hw 27 4 rfl
                have h4 : y 4 = .int .i64 ((m + 1 : Nat) : Int) := hd 4 rfl
                refine asked_val (.int .i64 (m : Int)) (want_at 2 25 true true rfl rfl ((hw 25 2 rfl).trans (hd 2 rfl))) (run_bin rfl (E27.trans h4) (hn (.const _) trivial) (by simp [go_sem, hm1, hm2])) rfl
              · intro ρ y W hw hn hb hd
                have E26 := hw 26 3 rfl
                have h3 : y 3 = .slice (some ⟨b, off, none⟩) l.length c := hd 3 rfl
                have E28 := hw 28 5 rfl
                have h5 : y 5 = .int .i64 (m : Int) := hd 5 rfl
                refine asked_val (.pointer (some ⟨b, off + m * 7, none⟩)) (want_at 2 25 true true rfl rfl ((hw 25 2 rfl).trans (hd 2 rfl))) (by simp [execOp, go_sem, E26, h3, E28, h5, hml]) rfl
              · intro ρ y W hw hn hb hd
                have E29 := hw 29 6 rfl
                have h6 : y 6 = .pointer (some ⟨b, off + m * 7, none⟩) := hd 6 rfl
                refine asked_val (.pointer (some ⟨b, off + m * 7 + 1, none⟩)) (want_at 2 25 true true rfl rfl ((hw 25 2 rfl).trans (hd 2 rfl))) (by simp [execOp, go_sem, E29, h6]) rfl
              · intro ρ y W hw hn hb hd
                have E30 := hw 30 7 rfl
                have h7 : y 7 = .pointer (some ⟨b, off + m * 7 + 1, none⟩) := hd 7 rfl
                have hc0 := (hPm.below hb).cells.2.1
                refine asked_val (.int .i64 A0.en) (want_at 2 25 true true rfl rfl ((hw 25 2 rfl).trans (hd 2 rfl))) (by simp [execOp, go_sem, E30, h7, hc0]) rfl
              · intro ρ y W hw hn hb hd
                have E0 : ρ (.tmp 0) = .slice (some ⟨b, off, none⟩) l.length c := (hn (.tmp 0) rfl).trans rfl
                refine asked_val (.slice (some ⟨b, off, none⟩) l.length c) (want_at 2 25 true true rfl rfl ((hw 25 2 rfl).trans (hd 2 rfl))) (run_move (.inl rfl) E0) rfl
              · intro ρ y W hw hn hb hd
                have E3 : ρ (.tmp 3) = .int .i64 ((m + 1 : Nat) : Int) := (hn (.tmp 3) rfl).trans rfl
                refine asked_val (.int .i64 ((m + 1 : Nat) : Int)) (want_at 2 25 true true rfl rfl ((hw 25 2 rfl).trans (hd 2 rfl))) (run_move (.inl rfl) E3) rfl
              · intro ρ y W hw hn hb hd
                have E32 := hw 32 9 rfl
                have h9 : y 9 = .slice (some ⟨b, off, none⟩) l.length c := hd 9 rfl
                have E33 := hw 33 10 rfl
                have h10 : y 10 = .int .i64 ((m + 1 : Nat) : Int) := hd 10 rfl
                refine asked_val (.pointer (some ⟨b, off + (m + 1) * 7, none⟩)) (want_at 2 25 true true rfl rfl ((hw 25 2 rfl).trans (hd 2 rfl))) (by simp [execOp, go_sem, E32, h9, E33, h10, hlt, hg1, hg2, hg3]) rfl
              · intro ρ y W hw hn hb hd
                have E34 := hw 34 11 rfl
                have h11 : y 11 = .pointer (some ⟨b, off + (m + 1) * 7, none⟩) := hd 11 rfl
                refine asked_val (.pointer (some ⟨b, off + (m + 1) * 7, none⟩)) (want_at 2 25 true true rfl rfl ((hw 25 2 rfl).trans (hd 2 rfl))) (by simp [execOp, go_sem, E34, h11]) rfl
              · intro ρ y W hw hn hb hd
                have E35 := hw 35 12 rfl
                have h12 : y 12 = .pointer (some ⟨b, off + (m + 1) * 7, none⟩) := hd 12 rfl
                have hc0 := (hPk.below hb).cells.1
                refine asked_val (.int .i64 A1.fr) (want_at 2 25 true true rfl rfl ((hw 25 2 rfl).trans (hd 2 rfl))) (by simp [execOp, go_sem, E35, h12, hc0]) rfl
              · intro ρ y W hw hn hb hd
                have E31 := hw 31 8 rfl
                have h8 : y 8 = .int .i64 A0.en := hd 8 rfl
                have E36 := hw 36 13 rfl
                have h13 : y 13 = .int .i64 A1.fr := hd 13 rfl
                refine asked_val (.bool true) (want_at 2 25 true true rfl rfl ((hw 25 2 rfl).trans (hd 2 rfl))) (run_bin rfl (E31.trans h8) (E36.trans h13) (by simp [go_sem, hov])) rfl
              · intro ρ y W hw hn hb hd
                have E37 := hw 37 14 rfl
                have h14 : y 14 = .bool true := hd 14 rfl
                refine asked_val (.bool true) (want_at 2 25 true true rfl rfl ((hw 25 2 rfl).trans (hd 2 rfl))) (run_move (.inl rfl) (E37.trans h14)) rfl
              · intro ρ y W hw hn hb hd
                exact asked_skip (want_at 15 38 true false rfl rfl ((hw 38 15 rfl).trans (hd 15 rfl))) rfl
              · intro ρ y W hw hn hb hd
                exact asked_skip (want_at 15 38 true false rfl rfl ((hw 38 15 rfl).trans (hd 15 rfl))) rfl
              · intro ρ y W hw hn hb hd
                exact asked_skip (want_at 15 38 true false rfl rfl ((hw 38 15 rfl).trans (hd 15 rfl))) rfl
              · intro ρ y W hw hn hb hd
                exact asked_skip (want_at 15 38 true false rfl rfl ((hw 38 15 rfl).trans (hd 15 rfl))) rfl
              · intro ρ y W hw hn hb hd
                exact asked_skip (want_at 15 38 true false rfl rfl ((hw 38 15 rfl).trans (hd 15 rfl))) rfl
              · intro ρ y W hw hn hb hd
                exact asked_skip (want_at 15 38 true false rfl rfl ((hw 38 15 rfl).trans (hd 15 rfl))) rfl
              · intro ρ y W hw hn hb hd
                exact asked_skip (want_at 15 38 true false rfl rfl ((hw 38 15 rfl).trans (hd 15 rfl))) rfl
              · intro ρ y W hw hn hb hd
                exact asked_skip (want_at 15 38 true false rfl rfl ((hw 38 15 rfl).trans (hd 15 rfl))) rfl
              · intro ρ y W hw hn hb hd
                have E38 := hw 38 15 rfl
                have h15 : y 15 = .bool true := hd 15 rfl
                have E46 := hw 46 23 rfl
                have h23 : y 23 = undef := hd 23 rfl
                refine asked_val (.bool true) (want_at 2 25 true true rfl rfl ((hw 25 2 rfl).trans (hd 2 rfl))) (run_pick rfl (E38.trans h15) (by first | simpa using (hn (.const _) trivial) | exact (hn (.const _) trivial).trans rfl)) rfl
              · intro ρ y W hw hn hb hd
                have E25 := hw 25 2 rfl
                have h2 : y 2 = .bool true := hd 2 rfl
                have E47 := hw 47 24 rfl
                have h24 : y 24 = .bool true := hd 24 rfl
                refine asked_val (.bool true) (want_free rfl) (run_pick rfl (E25.trans h2) (by first | simpa using (E47.trans h24) | exact (hn (.const _) trivial).trans rfl)) rfl
              intro y WA hbWA hRWA
              have hy0 : y 0 = .int .i64 ((m + 1 : Nat) : Int) := hRWA 0 (by decide)
              have hy1 : y 1 = .bool true := hRWA 1 (by decide)
              have hy2 : y 2 = .bool true := hRWA 2 (by decide)
              have hy3 : y 3 = .slice (some ⟨b, off, none⟩) l.length c := hRWA 3 (by decide)
              have hy4 : y 4 = .int .i64 ((m + 1 : Nat) : Int) := hRWA 4 (by decide)
              have hy5 : y 5 = .int .i64 (m : Int) := hRWA 5 (by decide)
              have hy6 : y 6 = .pointer (some ⟨b, off + m * 7, none⟩) := hRWA 6 (by decide)
              have hy7 : y 7 = .pointer (some ⟨b, off + m * 7 + 1, none⟩) := hRWA 7 (by decide)
              have hy8 : y 8 = .int .i64 A0.en := hRWA 8 (by decide)
              have hy9 : y 9 = .slice (some ⟨b, off, none⟩) l.length c := hRWA 9 (by decide)
              have hy10 : y 10 = .int .i64 ((m + 1 : Nat) : Int) := hRWA 10 (by decide)
              have hy11 : y 11 = .pointer (some ⟨b, off + (m + 1) * 7, none⟩) := hRWA 11 (by decide)
              have hy12 : y 12 = .pointer (some ⟨b, off + (m + 1) * 7, none⟩) := hRWA 12 (by decide)
              have hy13 : y 13 = .int .i64 A1.fr := hRWA 13 (by decide)
              have hy14 : y 14 = .bool true := hRWA 14 (by decide)
              have hy15 : y 15 = .bool true := hRWA 15 (by decide)
              have hy16 : y 16 = undef := hRWA 16 (by decide)
              have hy17 : y 17 = undef := hRWA 17 (by decide)
              have hy18 : y 18 = undef := hRWA 18 (by decide)
              have hy19 : y 19 = undef := hRWA 19 (by decide)
              have hy20 : y 20 = undef := hRWA 20 (by decide)
              have hy21 : y 21 = undef := hRWA 21 (by decide)
              have hy22 : y 22 = undef := hRWA 22 (by decide)
              have hy23 : y 23 = undef := hRWA 23 (by decide)
              have hy24 : y 24 = .bool true := hRWA 24 (by decide)
              have hy25 : y 25 = .bool true := hRWA 25 (by decide)
              clear hRWA
              simp only [lay, Nat.reduceAdd, Nat.reduceLT, decide_true, decide_false, if_true, Bool.false_eq_true, if_false, List.setIfInBounds_toArray, List.set_cons_zero, List.set_cons_succ, List.drop_succ_cons, List.drop_zero, List.drop_nil, hy0, hy1, hy2, hy3, hy4, hy5, hy6, hy7, hy8, hy9, hy10, hy11, hy12, hy13, hy14, hy15, hy16, hy17, hy18, hy19, hy20, hy21, hy22, hy23, hy24, hy25]
              clear hy0 hy1 hy2 hy3 hy4 hy5 hy6 hy7 hy8 hy9 hy10 hy11 hy12 hy13 hy14 hy15 hy16 hy17 hy18 hy19 hy20 hy21 hy22 hy23 hy24 hy25
              have hbel := below_next hbel2 hbWA
              have hres := hres2.ext hbWA
              clear hbel2 hres2
              go_wp2_with (refine wpList_stw rfl _ _ _ rfl w.heap.size #[.int .i64 (2), .int .i64 (((m + 1 : Nat) : Int))] rfl rfl _ _ hres rfl fau_size (fau_one _ _) ?_)
              intro w5 hr5 hgr5
              have hbel5 : Below w.heap.size w w5 := hbel.grown hgr5 hbel.size (fun k hk => by cases hk; exact Nat.le_refl _)
              go_wp2
              refine bodyPost_ret (v := .agg #[.int .i64 (2), .int .i64 (((m + 1 : Nat) : Int))]) (results_c Try.results43 _ _ w.heap.size _ _ _ rfl hr5 Try.underlying68 rfl fau_size) rfl ?_
              exact ⟨by rw [hz.out]; rfl, hbel5⟩
            · cases hj : joinsB A0 A1
              · have hnx : Hid (wrongA l = wrongAt (prevA l (m + 1 + 1)) (m + 1 + 1) (l.drop (m + 1 + 1))) := Lib.hid (by rw [hst.out]; exact wrong_next hlt (by rw [hA1]; exact he'.out) (by rw [hA1, hbp.out, decide_eq_false hov, hj]; rfl))
                refine wp_grow 26 [isV (.int .i64 ((m + 1 : Nat) : Int)), isV (.bool true), isV (.bool true), isV (.slice (some ⟨b, off, none⟩) l.length c), isV (.int .i64 ((m + 1 : Nat) : Int)), isV (.int .i64 (m : Int)), isV (.pointer (some ⟨b, off + m * 7, none⟩)), isV (.pointer (some ⟨b, off + m * 7 + 1, none⟩)), isV (.int .i64 A0.en), isV (.slice (some ⟨b, off, none⟩) l.length c), isV (.int .i64 ((m + 1 : Nat) : Int)), isV (.pointer (some ⟨b, off + (m + 1) * 7, none⟩)), isV (.pointer (some ⟨b, off + (m + 1) * 7, none⟩)), isV (.int .i64 A1.fr), isV (.bool false), isV (.bool false), isV (.slice (some ⟨b, off, none⟩) l.length c), isV (.int .i64 ((m + 1 : Nat) : Int)), isV (.int .i64 (m : Int)), isV (.pointer (some ⟨b, off + m * 7, none⟩)), isV (.slice (some ⟨b, off, none⟩) l.length c), isV (.int .i64 ((m + 1 : Nat) : Int)), isV (.pointer (some ⟨b, off + (m + 1) * 7, none⟩)), isV (.bool false), isV (.bool false), isV (.bool false)] (by kernel_rfl) (by kernel_rfl) (by kernel_rfl) (by decide) _ rfl (by kernel_rfl) (all_cons ?_ (all_cons ?_ (all_cons ?_ (all_cons ?_ (all_cons ?_ (all_cons ?_ (all_cons ?_ (all_cons ?_ (all_cons ?_ (all_cons ?_ (all_cons ?_ (all_cons ?_ (all_cons ?_ (all_cons ?_ (all_cons ?_ (all_cons ?_ (all_cons ?_ (all_cons ?_ (all_cons ?_ (all_cons ?_ (all_cons ?_ (all_cons ?_ (all_cons ?_ (all_cons ?_ (all_cons ?_ (all_cons ?_ (all_nil))))))))))))))))))))))))))) ?_
                · intro ρ y W hw hn hb hd
                  have E3 : ρ (.tmp 3) = .int .i64 ((m + 1 : Nat) : Int) := (hn (.tmp 3) rfl).trans rfl
                  refine asked_val (.int .i64 ((m + 1 : Nat) : Int)) (want_free rfl) (run_move (.inl rfl) E3) rfl
                · intro ρ y W hw hn hb hd
                  have E23 := hw 23 0 rfl
                  have h0 : y 0 = .int .i64 ((m + 1 : Nat) : Int) := hd 0 rfl
                  refine asked_val (.bool true) (want_free rfl) (run_bin rfl (E23.trans h0) (hn (.const _) trivial) (by simp [go_sem])) rfl
                · intro ρ y W hw hn hb hd
                  have E24 := hw 24 1 rfl
                  have h1 : y 1 = .bool true := hd 1 rfl
                  refine asked_val (.bool true) (want_free rfl) (run_move (.inl rfl) (E24.trans h1)) rfl
                · intro ρ y W hw hn hb hd
                  have E0 : ρ (.tmp 0) = .slice (some ⟨b, off, none⟩) l.length c := (hn (.tmp 0) rfl).trans rfl
                  refine asked_val (.slice (some ⟨b, off, none⟩) l.length c) (want_at 2 25 true true rfl rfl ((hw 25 2 rfl).trans (hd 2 rfl))) (run_move (.inl rfl) E0) rfl
                · intro ρ y W hw hn hb hd
                  have E3 : ρ (.tmp 3) = .int .i64 ((m + 1 : Nat) : Int) := (hn (.tmp 3) rfl).trans rfl
                  refine asked_val (.int .i64 ((m + 1 : Nat) : Int)) (want_at 2 25 true true rfl rfl ((hw 25 2 rfl).trans (hd 2 rfl))) (run_move (.inl rfl) E3) rfl
                · intro ρ y W hw hn hb hd
                  have E27 := hw 27 4 rfl
                  have h4 : y 4 = .int .i64 ((m + 1 : Nat) : Int) := hd 4 rfl
                  refine asked_val (.int .i64 (m : Int)) (want_at 2 25 true true rfl rfl ((hw 25 2 rfl).trans (hd 2 rfl))) (run_bin rfl (E27.trans h4) (hn (.const _) trivial) (by simp [go_sem, hm1, hm2])) rfl
                · intro ρ y W hw hn hb hd
                  have E26 := hw 26 3 rfl
                  have h3 : y 3 = .slice (some ⟨b, off, none⟩) l.length c := hd 3 rfl
                  have E28 := hw 28 5 rfl
                  have h5 : y 5 = .int .i64 (m : Int) := hd 5 rfl
                  refine asked_val (.pointer (some ⟨b, off + m * 7, none⟩)) (want_at 2 25 true true rfl rfl ((hw 25 2 rfl).trans (hd 2 rfl))) (by simp [execOp, go_sem, E26, h3, E28, h5, hml]) rfl
                · intro ρ y W hw hn hb hd
                  have E29 := hw 29 6 rfl
                  have h6 : y 6 = .pointer (some ⟨b, off + m * 7, none⟩) := hd 6 rfl
                  refine asked_val (.pointer (some ⟨b, off + m * 7 + 1, none⟩)) (want_at 2 25 true true rfl rfl ((hw 25 2 rfl).trans (hd 2 rfl))) (by simp [execOp, go_sem, E29, h6]) rfl
                · intro ρ y W hw hn hb hd
                  have E30 := hw 30 7 rfl
                  have h7 : y 7 = .pointer (some ⟨b, off + m * 7 + 1, none⟩) := hd 7 rfl
                  have hc0 := (hPm.below hb).cells.2.1
                  refine asked_val (.int .i64 A0.en) (want_at 2 25 true true rfl rfl ((hw 25 2 rfl).trans (hd 2 rfl))) (by simp [execOp, go_sem, E30, h7, hc0]) rfl
                · intro ρ y W hw hn hb hd
                  have E0 : ρ (.tmp 0) = .slice (some ⟨b, off, none⟩) l.length c := (hn (.tmp 0) rfl).trans rfl
                  refine asked_val (.slice (some ⟨b, off, none⟩) l.length c) (want_at 2 25 true true rfl rfl ((hw 25 2 rfl).trans (hd 2 rfl))) (run_move (.inl rfl) E0) rfl
                · intro ρ y W hw hn hb hd
                  have E3 : ρ (.tmp 3) = .int .i64 ((m + 1 : Nat) : Int) := (hn (.tmp 3) rfl).trans rfl
                  refine asked_val (.int .i64 ((m + 1 : Nat) : Int)) (want_at 2 25 true true rfl rfl ((hw 25 2 rfl).trans (hd 2 rfl))) (run_move (.inl rfl) E3) rfl
                · intro ρ y W hw hn hb hd
                  have E32 := hw 32 9 rfl
                  have h9 : y 9 = .slice (some ⟨b, off, none⟩) l.length c := hd 9 rfl
                  have E33 := hw 33 10 rfl
                  have h10 : y 10 = .int .i64 ((m + 1 : Nat) : Int) := hd 10 rfl
                  refine asked_val (.pointer (some ⟨b, off + (m + 1) * 7, none⟩)) (want_at 2 25 true true rfl rfl ((hw 25 2 rfl).trans (hd 2 rfl))) (by simp [execOp, go_sem, E32, h9, E33, h10, hlt, hg1, hg2, hg3]) rfl
                · intro ρ y W hw hn hb hd
                  have E34 := hw 34 11 rfl
                  have h11 : y 11 = .pointer (some ⟨b, off + (m + 1) * 7, none⟩) := hd 11 rfl
                  refine asked_val (.pointer (some ⟨b, off + (m + 1) * 7, none⟩)) (want_at 2 25 true true rfl rfl ((hw 25 2 rfl).trans (hd 2 rfl))) (by simp [execOp, go_sem, E34, h11]) rfl
                · intro ρ y W hw hn hb hd
                  have E35 := hw 35 12 rfl
                  have h12 : y 12 = .pointer (some ⟨b, off + (m + 1) * 7, none⟩) := hd 12 rfl
                  have hc0 := (hPk.below hb).cells.1
                  refine asked_val (.int .i64 A1.fr) (want_at 2 25 true true rfl rfl ((hw 25 2 rfl).trans (hd 2 rfl))) (by simp [execOp, go_sem, E35, h12, hc0]) rfl
                · intro ρ y W hw hn hb hd
                  have E31 := hw 31 8 rfl
                  have h8 : y 8 = .int .i64 A0.en := hd 8 rfl
                  have E36 := hw 36 13 rfl
                  have h13 : y 13 = .int .i64 A1.fr := hd 13 rfl
                  refine asked_val (.bool false) (want_at 2 25 true true rfl rfl ((hw 25 2 rfl).trans (hd 2 rfl))) (run_bin rfl (E31.trans h8) (E36.trans h13) (by simp [go_sem, hov])) rfl
                · intro ρ y W hw hn hb hd
                  have E37 := hw 37 14 rfl
                  have h14 : y 14 = .bool false := hd 14 rfl
                  refine asked_val (.bool false) (want_at 2 25 true true rfl rfl ((hw 25 2 rfl).trans (hd 2 rfl))) (run_move (.inl rfl) (E37.trans h14)) rfl
                · intro ρ y W hw hn hb hd
                  have E0 : ρ (.tmp 0) = .slice (some ⟨b, off, none⟩) l.length c := (hn (.tmp 0) rfl).trans rfl
                  refine asked_val (.slice (some ⟨b, off, none⟩) l.length c) (want_at 15 38 false false rfl rfl ((hw 38 15 rfl).trans (hd 15 rfl))) (run_move (.inl rfl) E0) rfl
                · intro ρ y W hw hn hb hd
                  have E3 : ρ (.tmp 3) = .int .i64 ((m + 1 : Nat) : Int) := (hn (.tmp 3) rfl).trans rfl
                  refine asked_val (.int .i64 ((m + 1 : Nat) : Int)) (want_at 15 38 false false rfl rfl ((hw 38 15 rfl).trans (hd 15 rfl))) (run_move (.inl rfl) E3) rfl
                · intro ρ y W hw hn hb hd
                  have E40 := hw 40 17 rfl
                  have h17 : y 17 = .int .i64 ((m + 1 : Nat) : Int) := hd 17 rfl
                  refine asked_val (.int .i64 (m : Int)) (want_at 15 38 false false rfl rfl ((hw 38 15 rfl).trans (hd 15 rfl))) (run_bin rfl (E40.trans h17) (hn (.const _) trivial) (by simp [go_sem, hm1, hm2])) rfl
                · intro ρ y W hw hn hb hd
                  have E39 := hw 39 16 rfl
                  have h16 : y 16 = .slice (some ⟨b, off, none⟩) l.length c := hd 16 rfl
                  have E41 := hw 41 18 rfl
                  have h18 : y 18 = .int .i64 (m : Int) := hd 18 rfl
                  refine asked_val (.pointer (some ⟨b, off + m * 7, none⟩)) (want_at 15 38 false false rfl rfl ((hw 38 15 rfl).trans (hd 15 rfl))) (by simp [execOp, go_sem, E39, h16, E41, h18, hml]) rfl
                · intro ρ y W hw hn hb hd
                  have E0 : ρ (.tmp 0) = .slice (some ⟨b, off, none⟩) l.length c := (hn (.tmp 0) rfl).trans rfl
                  refine asked_val (.slice (some ⟨b, off, none⟩) l.length c) (want_at 15 38 false false rfl rfl ((hw 38 15 rfl).trans (hd 15 rfl))) (run_move (.inl rfl) E0) rfl
                · intro ρ y W hw hn hb hd
                  have E3 : ρ (.tmp 3) = .int .i64 ((m + 1 : Nat) : Int) := (hn (.tmp 3) rfl).trans rfl
                  refine asked_val (.int .i64 ((m + 1 : Nat) : Int)) (want_at 15 38 false false rfl rfl ((hw 38 15 rfl).trans (hd 15 rfl))) (run_move (.inl rfl) E3) rfl
                · intro ρ y W hw hn hb hd
                  have E43 := hw 43 20 rfl
                  have h20 : y 20 = .slice (some ⟨b, off, none⟩) l.length c := hd 20 rfl
                  have E44 := hw 44 21 rfl
                  have h21 : y 21 = .int .i64 ((m + 1 : Nat) : Int) := hd 21 rfl
                  refine asked_val (.pointer (some ⟨b, off + (m + 1) * 7, none⟩)) (want_at 15 38 false false rfl rfl ((hw 38 15 rfl).trans (hd 15 rfl))) (by simp [execOp, go_sem, E43, h20, E44, h21, hlt, hg1, hg2, hg3]) rfl
                · intro ρ y W hw hn hb hd
                  have E42 := hw 42 19 rfl
                  have h19 : y 19 = .pointer (some ⟨b, off + m * 7, none⟩) := hd 19 rfl
                  have E45 := hw 45 22 rfl
                  have h22 : y 22 = .pointer (some ⟨b, off + (m + 1) * 7, none⟩) := hd 22 rfl
                  have EF : ∀ f, ρ (.func f) = .func (.func f) #[] #[] := fun f => hn (.func f) trivial
                  refine asked_call _ _ (want_at 15 38 false false rfl rfl ((hw 38 15 rfl).trans (hd 15 rfl))) (run_call rfl (EF _) Try.func68 (by kernel_rfl) (by kernel_rfl) (by simp only [List.map_toArray, List.map_cons, List.map_nil, E42, h19, E45, h22, EF]; rfl)) ?_
                  refine (joins_any b (off + m * 7) b (off + (m + 1) * 7) A0 A1 W (hPm.below hb) (hPk.below hb) hfm).mono ?_
                  rintro r w1 ⟨rfl, hb1⟩
                  rw [hj]
                  exact ⟨_, rfl, hb1, rfl⟩
                · intro ρ y W hw hn hb hd
                  have E38 := hw 38 15 rfl
                  have h15 : y 15 = .bool false := hd 15 rfl
                  have E46 := hw 46 23 rfl
                  have h23 : y 23 = .bool false := hd 23 rfl
                  refine asked_val (.bool false) (want_at 2 25 true true rfl rfl ((hw 25 2 rfl).trans (hd 2 rfl))) (run_pick rfl (E38.trans h15) (by first | simpa using (E46.trans h23) | exact (hn (.const _) trivial).trans rfl)) rfl
                · intro ρ y W hw hn hb hd
                  have E25 := hw 25 2 rfl
                  have h2 : y 2 = .bool true := hd 2 rfl
                  have E47 := hw 47 24 rfl
                  have h24 : y 24 = .bool false := hd 24 rfl
                  refine asked_val (.bool false) (want_free rfl) (run_pick rfl (E25.trans h2) (by first | simpa using (E47.trans h24) | exact (hn (.const _) trivial).trans rfl)) rfl
                intro y WA hbWA hRWA
                have hy0 : y 0 = .int .i64 ((m + 1 : Nat) : Int) := hRWA 0 (by decide)
                have hy1 : y 1 = .bool true := hRWA 1 (by decide)
                have hy2 : y 2 = .bool true := hRWA 2 (by decide)
                have hy3 : y 3 = .slice (some ⟨b, off, none⟩) l.length c := hRWA 3 (by decide)
                have hy4 : y 4 = .int .i64 ((m + 1 : Nat) : Int) := hRWA 4 (by decide)
                have hy5 : y 5 = .int .i64 (m : Int) := hRWA 5 (by decide)
                have hy6 : y 6 = .pointer (some ⟨b, off + m * 7, none⟩) := hRWA 6 (by decide)
                have hy7 : y 7 = .pointer (some ⟨b, off + m * 7 + 1, none⟩) := hRWA 7 (by decide)
                have hy8 : y 8 = .int .i64 A0.en := hRWA 8 (by decide)
                have hy9 : y 9 = .slice (some ⟨b, off, none⟩) l.length c := hRWA 9 (by decide)
                have hy10 : y 10 = .int .i64 ((m + 1 : Nat) : Int) := hRWA 10 (by decide)
                have hy11 : y 11 = .pointer (some ⟨b, off + (m + 1) * 7, none⟩) := hRWA 11 (by decide)
                have hy12 : y 12 = .pointer (some ⟨b, off + (m + 1) * 7, none⟩) := hRWA 12 (by decide)
                have hy13 : y 13 = .int .i64 A1.fr := hRWA 13 (by decide)
                have hy14 : y 14 = .bool false := hRWA 14 (by decide)
                have hy15 : y 15 = .bool false := hRWA 15 (by decide)
                have hy16 : y 16 = .slice (some ⟨b, off, none⟩) l.length c := hRWA 16 (by decide)
                have hy17 : y 17 = .int .i64 ((m + 1 : Nat) : Int) := hRWA 17 (by decide)
                have hy18 : y 18 = .int .i64 (m : Int) := hRWA 18 (by decide)
                have hy19 : y 19 = .pointer (some ⟨b, off + m * 7, none⟩) := hRWA 19 (by decide)
                have hy20 : y 20 = .slice (some ⟨b, off, none⟩) l.length c := hRWA 20 (by decide)
                have hy21 : y 21 = .int .i64 ((m + 1 : Nat) : Int) := hRWA 21 (by decide)
                have hy22 : y 22 = .pointer (some ⟨b, off + (m + 1) * 7, none⟩) := hRWA 22 (by decide)
                have hy23 : y 23 = .bool false := hRWA 23 (by decide)
                have hy24 : y 24 = .bool false := hRWA 24 (by decide)
                have hy25 : y 25 = .bool false := hRWA 25 (by decide)
                clear hRWA
                simp only [lay, Nat.reduceAdd, Nat.reduceLT, decide_true, decide_false, if_true, Bool.false_eq_true, if_false, List.setIfInBounds_toArray, List.set_cons_zero, List.set_cons_succ, List.drop_succ_cons, List.drop_zero, List.drop_nil, hy0, hy1, hy2, hy3, hy4, hy5, hy6, hy7, hy8, hy9, hy10, hy11, hy12, hy13, hy14, hy15, hy16, hy17, hy18, hy19, hy20, hy21, hy22, hy23, hy24, hy25]
                clear hy0 hy1 hy2 hy3 hy4 hy5 hy6 hy7 hy8 hy9 hy10 hy11 hy12 hy13 hy14 hy15 hy16 hy17 hy18 hy19 hy20 hy21 hy22 hy23 hy24 hy25
                have hbel := below_next hbel2 hbWA
                have hres := hres2.ext hbWA
                have hup : Hid (∀ i (h : i < l.length), i < m + 1 + 1 → areaE l[i] = 0) := Lib.hid (upto' hp.out hlt (by rw [hA1]; exact he'.out))
                clear hbel2 hres2 hg1 hg2 hg3 hm1 hm2
                go_wp2
                go_roundw
                case rel => exact ⟨m + 1 + 1, by omega, by go_num, hbel, hres, hup.out, hnx⟩
                case measure => simp [intOf]; omega
              · have hz : Hid (wrongA l = (2, ((m + 1 : Nat) : Int))) := Lib.hid (by rw [hst.out]; exact wrong_stop hlt (by rw [hA1]; exact he'.out) (by rw [hA1, hbp.out, hj, Bool.or_true]))
                refine wp_grow 26 [isV (.int .i64 ((m + 1 : Nat) : Int)), isV (.bool true), isV (.bool true), isV (.slice (some ⟨b, off, none⟩) l.length c), isV (.int .i64 ((m + 1 : Nat) : Int)), isV (.int .i64 (m : Int)), isV (.pointer (some ⟨b, off + m * 7, none⟩)), isV (.pointer (some ⟨b, off + m * 7 + 1, none⟩)), isV (.int .i64 A0.en), isV (.slice (some ⟨b, off, none⟩) l.length c), isV (.int .i64 ((m + 1 : Nat) : Int)), isV (.pointer (some ⟨b, off + (m + 1) * 7, none⟩)), isV (.pointer (some ⟨b, off + (m + 1) * 7, none⟩)), isV (.int .i64 A1.fr), isV (.bool false), isV (.bool false), isV (.slice (some ⟨b, off, none⟩) l.length c), isV (.int .i64 ((m + 1 : Nat) : Int)), isV (.int .i64 (m : Int)), isV (.pointer (some ⟨b, off + m * 7, none⟩)), isV (.slice (some ⟨b, off, none⟩) l.length c), isV (.int .i64 ((m + 1 : Nat) : Int)), isV (.pointer (some ⟨b, off + (m + 1) * 7, none⟩)), isV (.bool true), isV (.bool true), isV (.bool true)] (by kernel_rfl) (by kernel_rfl) (by kernel_rfl) (by decide) _ rfl (by kernel_rfl) (all_cons ?_ (all_cons ?_ (all_cons ?_ (all_cons ?_ (all_cons ?_ (all_cons ?_ (all_cons ?_ (all_cons ?_ (all_cons ?_ (all_cons ?_ (all_cons ?_ (all_cons ?_ (all_cons ?_ (all_cons ?_ (all_cons ?_ (all_cons ?_ (all_cons ?_ (all_cons ?_ (all_cons ?_ (all_cons ?_ (all_cons ?_ (all_cons ?_ (all_cons ?_ (all_cons ?_ (all_cons ?_ (all_cons ?_ (all_nil))))))))))))))))))))))))))) ?_
                · intro ρ y W hw hn hb hd
                  have E3 : ρ (.tmp 3) = .int .i64 ((m + 1 : Nat) : Int) := (hn (.tmp 3) rfl).trans rfl
                  refine asked_val (.int .i64 ((m + 1 : Nat) : Int)) (want_free rfl) (run_move (.inl rfl) E3) rfl
                · intro ρ y W hw hn hb hd
                  have E23 := hw 23 0 rfl
                  have h0 : y 0 = .int .i64 ((m + 1 : Nat) : Int) := hd 0 rfl
                  refine asked_val (.bool true) (want_free rfl) (run_bin rfl (E23.trans h0) (hn (.const _) trivial) (by simp [go_sem])) rfl
                · intro ρ y W hw hn hb hd
                  have E24 := hw 24 1 rfl
                  have h1 : y 1 = .bool true := hd 1 rfl
                  refine asked_val (.bool true) (want_free rfl) (run_move (.inl rfl) (E24.trans h1)) rfl
                · intro ρ y W hw hn hb hd
                  have E0 : ρ (.tmp 0) = .slice (some ⟨b, off, none⟩) l.length c := (hn (.tmp 0) rfl).trans rfl
                  refine asked_val (.slice (some ⟨b, off, none⟩) l.length c) (want_at 2 25 true true rfl rfl ((hw 25 2 rfl).trans (hd 2 rfl))) (run_move (.inl rfl) E0) rfl
                · intro ρ y W hw hn hb hd
                  have E3 : ρ (.tmp 3) = .int .i64 ((m + 1 : Nat) : Int) := (hn (.tmp 3) rfl).trans rfl
                  refine asked_val (.int .i64 ((m + 1 : Nat) : Int)) (want_at 2 25 true true rfl rfl ((hw 25 2 rfl).trans (hd 2 rfl))) (run_move (.inl rfl) E3) rfl
                · intro ρ y W hw hn hb hd
                  have E27 := hw 27 4 rfl
                  have h4 : y 4 = .int .i64 ((m + 1 : Nat) : Int) := hd 4 rfl
                  refine asked_val (.int .i64 (m : Int)) (want_at 2 25 true true rfl rfl ((hw 25 2 rfl).trans (hd 2 rfl))) (run_bin rfl (E27.trans h4) (hn (.const _) trivial) (by simp [go_sem, hm1, hm2])) rfl
                · intro ρ y W hw hn hb hd
                  have E26 := hw 26 3 rfl
                  have h3 : y 3 = .slice (some ⟨b, off, none⟩) l.length c := hd 3 rfl
                  have E28 := hw 28 5 rfl
                  have h5 : y 5 = .int .i64 (m : Int) := hd 5 rfl
                  refine asked_val (.pointer (some ⟨b, off + m * 7, none⟩)) (want_at 2 25 true true rfl rfl ((hw 25 2 rfl).trans (hd 2 rfl))) (by simp [execOp, go_sem, E26, h3, E28, h5, hml]) rfl
                · intro ρ y W hw hn hb hd
                  have E29 := hw 29 6 rfl
                  have h6 : y 6 = .pointer (some ⟨b, off + m * 7, none⟩) := hd 6 rfl
                  refine asked_val (.pointer (some ⟨b, off + m * 7 + 1, none⟩)) (want_at 2 25 true true rfl rfl ((hw 25 2 rfl).trans (hd 2 rfl))) (by simp [execOp, go_sem, E29, h6]) rfl
                · intro ρ y W hw hn hb hd
                  have E30 := hw 30 7 rfl
                  have h7 : y 7 = .pointer (some ⟨b, off + m * 7 + 1, none⟩) := hd 7 rfl
                  have hc0 := (hPm.below hb).cells.2.1
                  refine asked_val (.int .i64 A0.en) (want_at 2 25 true true rfl rfl ((hw 25 2 rfl).trans (hd 2 rfl))) (by simp [execOp, go_sem, E30, h7, hc0]) rfl
                · intro ρ y W hw hn hb hd
                  have E0 : ρ (.tmp 0) = .slice (some ⟨b, off, none⟩) l.length c := (hn (.tmp 0) rfl).trans rfl
                  refine asked_val (.slice (some ⟨b, off, none⟩) l.length c) (want_at 2 25 true true rfl rfl ((hw 25 2 rfl).trans (hd 2 rfl))) (run_move (.inl rfl) E0) rfl
                · intro ρ y W hw hn hb hd
                  have E3 : ρ (.tmp 3) = .int .i64 ((m + 1 : Nat) : Int) := (hn (.tmp 3) rfl).trans rfl
                  refine asked_val (.int .i64 ((m + 1 : Nat) : Int)) (want_at 2 25 true true rfl rfl ((hw 25 2 rfl).trans (hd 2 rfl))) (run_move (.inl rfl) E3) rfl
                · intro ρ y W hw hn hb hd
                  have E32 := hw 32 9 rfl
                  have h9 : y 9 = .slice (some ⟨b, off, none⟩) l.length c := hd 9 rfl
                  have E33 := hw 33 10 rfl
                  have h10 : y 10 = .int .i64 ((m + 1 : Nat) : Int) := hd 10 rfl
                  refine asked_val (.pointer (some ⟨b, off + (m + 1) * 7, none⟩)) (want_at 2 25 true true rfl rfl ((hw 25 2 rfl).trans (hd 2 rfl))) (by simp [execOp, go_sem, E32, h9, E33, h10, hlt, hg1, hg2, hg3]) rfl
                · intro ρ y W hw hn hb hd
                  have E34 := hw 34 11 rfl
                  have h11 : y 11 = .pointer (some ⟨b, off + (m + 1) * 7, none⟩) := hd 11 rfl
                  refine asked_val (.pointer (some ⟨b, off + (m + 1) * 7, none⟩)) (want_at 2 25 true true rfl rfl ((hw 25 2 rfl).trans (hd 2 rfl))) (by simp [execOp, go_sem, E34, h11]) rfl
                · intro ρ y W hw hn hb hd
                  have E35 := hw 35 12 rfl
                  have h12 : y 12 = .pointer (some ⟨b, off + (m + 1) * 7, none⟩) := hd 12 rfl
                  have hc0 := (hPk.below hb).cells.1
                  refine asked_val (.int .i64 A1.fr) (want_at 2 25 true true rfl rfl ((hw 25 2 rfl).trans (hd 2 rfl))) (by simp [execOp, go_sem, E35, h12, hc0]) rfl
                · intro ρ y W hw hn hb hd
                  have E31 := hw 31 8 rfl
                  have h8 : y 8 = .int .i64 A0.en := hd 8 rfl
                  have E36 := hw 36 13 rfl
                  have h13 : y 13 = .int .i64 A1.fr := hd 13 rfl
                  refine asked_val (.bool false) (want_at 2 25 true true rfl rfl ((hw 25 2 rfl).trans (hd 2 rfl))) (run_bin rfl (E31.trans h8) (E36.trans h13) (by simp [go_sem, hov])) rfl
                · intro ρ y W hw hn hb hd
                  have E37 := hw 37 14 rfl
                  have h14 : y 14 = .bool false := hd 14 rfl
                  refine asked_val (.bool false) (want_at 2 25 true true rfl rfl ((hw 25 2 rfl).trans (hd 2 rfl))) (run_move (.inl rfl) (E37.trans h14)) rfl
                · intro ρ y W hw hn hb hd
                  have E0 : ρ (.tmp 0) = .slice (some ⟨b, off, none⟩) l.length c := (hn (.tmp 0) rfl).trans rfl
                  refine asked_val (.slice (some ⟨b, off, none⟩) l.length c) (want_at 15 38 false false rfl rfl ((hw 38 15 rfl).trans (hd 15 rfl))) (run_move (.inl rfl) E0) rfl
                · intro ρ y W hw hn hb hd
                  have E3 : ρ (.tmp 3) = .int .i64 ((m + 1 : Nat) : Int) := (hn (.tmp 3) rfl).trans rfl
                  refine asked_val (.int .i64 ((m + 1 : Nat) : Int)) (want_at 15 38 false false rfl rfl ((hw 38 15 rfl).trans (hd 15 rfl))) (run_move (.inl rfl) E3) rfl
                · intro ρ y W hw hn hb hd
                  have E40 := hw 40 17 rfl
                  have h17 : y 17 = .int .i64 ((m + 1 : Nat) : Int) := hd 17 rfl
                  refine asked_val (.int .i64 (m : Int)) (want_at 15 38 false false rfl rfl ((hw 38 15 rfl).trans (hd 15 rfl))) (run_bin rfl (E40.trans h17) (hn (.const _) trivial) (by simp [go_sem, hm1, hm2])) rfl
                · intro ρ y W hw hn hb hd
                  have E39 := hw 39 16 rfl
                  have h16 : y 16 = .slice (some ⟨b, off, none⟩) l.length c := hd 16 rfl
                  have E41 := hw 41 18 rfl
                  have h18 : y 18 = .int .i64 (m : Int) := hd 18 rfl
                  refine asked_val (.pointer (some ⟨b, off + m * 7, none⟩)) (want_at 15 38 false false rfl rfl ((hw 38 15 rfl).trans (hd 15 rfl))) (by simp [execOp, go_sem, E39, h16, E41, h18, hml]) rfl
                · intro ρ y W hw hn hb hd
                  have E0 : ρ (.tmp 0) = .slice (some ⟨b, off, none⟩) l.length c := (hn (.tmp 0) rfl).trans rfl
                  refine asked_val (.slice (some ⟨b, off, none⟩) l.length c) (want_at 15 38 false false rfl rfl ((hw 38 15 rfl).trans (hd 15 rfl))) (run_move (.inl rfl) E0) rfl
                · intro ρ y W hw hn hb hd
                  have E3 : ρ (.tmp 3) = .int .i64 ((m + 1 : Nat) : Int) := (hn (.tmp 3) rfl).trans rfl
                  refine asked_val (.int .i64 ((m + 1 : Nat) : Int)) (want_at 15 38 false false rfl rfl ((hw 38 15 rfl).trans (hd 15 rfl))) (run_move (.inl rfl) E3) rfl
                · intro ρ y W hw hn hb hd
                  have E43 := hw 43 20 rfl
                  have h20 : y 20 = .slice (some ⟨b, off, none⟩) l.length c := hd 20 rfl
                  have E44 := hw 44 21 rfl
                  have h21 : y 21 = .int .i64 ((m + 1 : Nat) : Int) := hd 21 rfl
                  refine asked_val (.pointer (some ⟨b, off + (m + 1) * 7, none⟩)) (want_at 15 38 false false rfl rfl ((hw 38 15 rfl).trans (hd 15 rfl))) (by simp [execOp, go_sem, E43, h20, E44, h21, hlt, hg1, hg2, hg3]) rfl
                · intro ρ y W hw hn hb hd
                  have E42 := hw 42 19 rfl
                  have h19 : y 19 = .pointer (some ⟨b, off + m * 7, none⟩) := hd 19 rfl
                  have E45 := hw 45 22 rfl
                  have h22 : y 22 = .pointer (some ⟨b, off + (m + 1) * 7, none⟩) := hd 22 rfl
                  have EF : ∀ f, ρ (.func f) = .func (.func f) #[] #[] := fun f => hn (.func f) trivial
                  refine asked_call _ _ (want_at 15 38 false false rfl rfl ((hw 38 15 rfl).trans (hd 15 rfl))) (run_call rfl (EF _) Try.func68 (by kernel_rfl) (by kernel_rfl) (by simp only [List.map_toArray, List.map_cons, List.map_nil, E42, h19, E45, h22, EF]; rfl)) ?_
                  refine (joins_any b (off + m * 7) b (off + (m + 1) * 7) A0 A1 W (hPm.below hb) (hPk.below hb) hfm).mono ?_
                  rintro r w1 ⟨rfl, hb1⟩
                  rw [hj]
                  exact ⟨_, rfl, hb1, rfl⟩
                · intro ρ y W hw hn hb hd
                  have E38 := hw 38 15 rfl
                  have h15 : y 15 = .bool false := hd 15 rfl
                  have E46 := hw 46 23 rfl
                  have h23 : y 23 = .bool true := hd 23 rfl
                  refine asked_val (.bool true) (want_at 2 25 true true rfl rfl ((hw 25 2 rfl).trans (hd 2 rfl))) (run_pick rfl (E38.trans h15) (by first | simpa using (E46.trans h23) | exact (hn (.const _) trivial).trans rfl)) rfl
                · intro ρ y W hw hn hb hd
                  have E25 := hw 25 2 rfl
                  have h2 : y 2 = .bool true := hd 2 rfl
                  have E47 := hw 47 24 rfl
                  have h24 : y 24 = .bool true := hd 24 rfl
                  refine asked_val (.bool true) (want_free rfl) (run_pick rfl (E25.trans h2) (by first | simpa using (E47.trans h24) | exact (hn (.const _) trivial).trans rfl)) rfl
                intro y WA hbWA hRWA
                have hy0 : y 0 = .int .i64 ((m + 1 : Nat) : Int) := hRWA 0 (by decide)
                have hy1 : y 1 = .bool true := hRWA 1 (by decide)
                have hy2 : y 2 = .bool true := hRWA 2 (by decide)
                have hy3 : y 3 = .slice (some ⟨b, off, none⟩) l.length c := hRWA 3 (by decide)
                have hy4 : y 4 = .int .i64 ((m + 1 : Nat) : Int) := hRWA 4 (by decide)
                have hy5 : y 5 = .int .i64 (m : Int) := hRWA 5 (by decide)
                have hy6 : y 6 = .pointer (some ⟨b, off + m * 7, none⟩) := hRWA 6 (by decide)
                have hy7 : y 7 = .pointer (some ⟨b, off + m * 7 + 1, none⟩) := hRWA 7 (by decide)
                have hy8 : y 8 = .int .i64 A0.en := hRWA 8 (by decide)
                have hy9 : y 9 = .slice (some ⟨b, off, none⟩) l.length c := hRWA 9 (by decide)
                have hy10 : y 10 = .int .i64 ((m + 1 : Nat) : Int) := hRWA 10 (by decide)
                have hy11 : y 11 = .pointer (some ⟨b, off + (m + 1) * 7, none⟩) := hRWA 11 (by decide)
                have hy12 : y 12 = .pointer (some ⟨b, off + (m + 1) * 7, none⟩) := hRWA 12 (by decide)
                have hy13 : y 13 = .int .i64 A1.fr := hRWA 13 (by decide)
                have hy14 : y 14 = .bool false := hRWA 14 (by decide)
                have hy15 : y 15 = .bool false := hRWA 15 (by decide)
                have hy16 : y 16 = .slice (some ⟨b, off, none⟩) l.length c := hRWA 16 (by decide)
                have hy17 : y 17 = .int .i64 ((m + 1 : Nat) : Int) := hRWA 17 (by decide)
                have hy18 : y 18 = .int .i64 (m : Int) := hRWA 18 (by decide)
                have hy19 : y 19 = .pointer (some ⟨b, off + m * 7, none⟩) := hRWA 19 (by decide)
                have hy20 : y 20 = .slice (some ⟨b, off, none⟩) l.length c := hRWA 20 (by decide)
                have hy21 : y 21 = .int .i64 ((m + 1 : Nat) : Int) := hRWA 21 (by decide)
                have hy22 : y 22 = .pointer (some ⟨b, off + (m + 1) * 7, none⟩) := hRWA 22 (by decide)
                have hy23 : y 23 = .bool true := hRWA 23 (by decide)
                have hy24 : y 24 = .bool true := hRWA 24 (by decide)
                have hy25 : y 25 = .bool true := hRWA 25 (by decide)
                clear hRWA
                simp only [lay, Nat.reduceAdd, Nat.reduceLT, decide_true, decide_false, if_true, Bool.false_eq_true, if_false, List.setIfInBounds_toArray, List.set_cons_zero, List.set_cons_succ, List.drop_succ_cons, List.drop_zero, List.drop_nil, hy0, hy1, hy2, hy3, hy4, hy5, hy6, hy7, hy8, hy9, hy10, hy11, hy12, hy13, hy14, hy15, hy16, hy17, hy18, hy19, hy20, hy21, hy22, hy23, hy24, hy25]
                clear hy0 hy1 hy2 hy3 hy4 hy5 hy6 hy7 hy8 hy9 hy10 hy11 hy12 hy13 hy14 hy15 hy16 hy17 hy18 hy19 hy20 hy21 hy22 hy23 hy24 hy25
                have hbel := below_next hbel2 hbWA
                have hres := hres2.ext hbWA
                clear hbel2 hres2
                go_wp2_with (refine wpList_stw rfl _ _ _ rfl w.heap.size #[.int .i64 (2), .int .i64 (((m + 1 : Nat) : Int))] rfl rfl _ _ hres rfl fau_size (fau_one _ _) ?_)
                intro w5 hr5 hgr5
                have hbel5 : Below w.heap.size w w5 := hbel.grown hgr5 hbel.size (fun k hk => by cases hk; exact Nat.le_refl _)
                go_wp2
                refine bodyPost_ret (v := .agg #[.int .i64 (2), .int .i64 (((m + 1 : Nat) : Int))]) (results_c Try.results43 _ _ w.heap.size _ _ _ rfl hr5 Try.underlying68 rfl fau_size) rfl ?_
                exact ⟨by rw [hz.out]; rfl, hbel5⟩
        · have hz : Hid (wrongA l = (areaE l[k], (k : Int))) := Lib.hid (by rw [hst.out]; exact wrong_bad hlt he)
          have he' : (areaE l[k] != 0) = true := by simpa using he
          have hbel := hbel2
          have hres := hres2
          clear he hbel2 hres2
          go_wp2_with (refine wpList_stw rfl _ _ _ rfl w.heap.size #[.int .i64 (areaE l[k]), .int .i64 (k)] rfl rfl _ _ hres rfl fau_size (fau_one _ _) ?_)
          intro w5 hr5 hgr5
          have hbel5 : Below w.heap.size w w5 := hbel.grown hgr5 hbel.size (fun k hk => by cases hk; exact Nat.le_refl _)
          go_wp2
          refine bodyPost_ret (v := .agg #[.int .i64 (areaE l[k]), .int .i64 (k)]) (results_c Try.results43 _ _ w.heap.size _ _ _ rfl hr5 Try.underlying68 rfl fau_size) rfl ?_
          exact ⟨by rw [hz.out]; rfl, hbel5⟩
      · have hz : Hid (wrongA l = (0, 0)) := Lib.hid (by rw [hst.out, List.drop_eq_nil_of_le (by omega)]; rfl)
        go_wp2_with (refine wpList_stw rfl _ _ _ rfl w.heap.size #[.int .i64 (0), .int .i64 (0)] rfl rfl _ _ hres rfl fau_size (fau_one _ _) ?_)
        intro w5 hr5 hgr5
        have hbel5 : Below w.heap.size w w5 := hbel.grown hgr5 hbel.size (fun k hk => by cases hk; exact Nat.le_refl _)
        go_wp2
        refine bodyPost_ret (v := .agg #[.int .i64 (0), .int .i64 (0)]) (results_c Try.results43 _ _ w.heap.size _ _ _ rfl hr5 Try.underlying68 rfl fau_size) rfl ?_
        exact ⟨by rw [hz.out]; rfl, hbel5⟩
theorem ar_at7 {w : World} {a : Option Addr} {l : List Ar} (h : RdV w a (l.flatMap arL)) (k : Nat) (hk : k < l.length) : ∃ b off, a = some ⟨b, off, none⟩ ∧ w.cell? ⟨b, off + k * 7, none⟩ = some (.int .i64 l[k].fr) ∧ w.cell? ⟨b, off + k * 7 + 1, none⟩ = some (.int .i64 l[k].en) ∧ w.cell? ⟨b, off + k * 7 + 2, none⟩ = some (.bool l[k].rd) ∧ w.cell? ⟨b, off + k * 7 + 3, none⟩ = some (.bool l[k].wr) ∧
    w.cell? ⟨b, off + k * 7 + 4, none⟩ = some (.bool l[k].sh) ∧ w.cell? ⟨b, off + k * 7 + 5, none⟩ = some (.int .i64 l[k].fi) ∧ w.cell? ⟨b, off + k * 7 + 6, none⟩ = some (.int .i64 l[k].ba) := by
  obtain ⟨b, off, e, h1⟩ := ar_at h k hk
  exact ⟨b, off, e, h1.cells⟩
/-- A page lies in an area. -/
def inA (n : Int) (a : Ar) : Bool := decide (a.fr ≤ n) && decide (n < a.en)
def findA (l : List Ar) (n : Int) : Int := idx (inA n) l
set_option maxRecDepth 100000 in
theorem find1_any (a : Ar) (g : Nat) (n : Int) (w : World) (hg : Blk w g #[.int .i64 n] 3) :
    Calls Try.prog 83 #[.agg #[.int .i64 a.fr, .int .i64 a.en, .bool a.rd, .bool a.wr, .bool a.sh, .int .i64 a.fi, .int .i64 a.ba], .pointer (some ⟨g, 0, none⟩)] w fun r w' => r = .returned (.bool (inA n a)) ∧ Below w.heap.size w w' := by
  go_enter Try.func83, Try.ntmps83
  go_upto_region 1 with (fail)
  refine abs1 (fun W => Code.wp _ _ _ _ W) fun W0 hb0 hx0 hs0 => ?_
  clear hs0
  have hgx := (hg.ext hb0).cell 0
  have hcx := hx0.cell
  by_cases h1 : a.fr ≤ n
  · by_cases h2 : n < a.en
    · have hz := Lib.hid (show inA n a = true by unfold inA; rw [decide_eq_true h1, decide_eq_true h2]; rfl)
      go_wp2
      go_ret
      exact ⟨ret_bool hz.out.symm, hb0⟩
    · have hz := Lib.hid (show inA n a = false by unfold inA; rw [decide_eq_false h2, Bool.and_false])
      go_wp2
      go_ret
      exact ⟨ret_bool hz.out.symm, hb0⟩
  · have hz := Lib.hid (show inA n a = false by unfold inA; rw [decide_eq_false h1, Bool.false_and])
    go_wp2
    go_ret
    exact ⟨ret_bool hz.out.symm, hb0⟩
set_option maxHeartbeats 1000000 in
set_option maxRecDepth 100000 in
theorem idxfind_any (l : List Ar) (a : Option Addr) (c : Nat) (w : World) (hrd : RdV w a (l.flatMap arL)) (hl : l.length ≤ 9223372036854775807) (g : Nat) (n : Int) (hg : Blk w g #[.int .i64 n] 3) :
    Calls Try.prog 73 #[.slice a l.length c, .func (.func 83) #[] #[.pointer (some ⟨g, 0, none⟩)]] w fun e w' => e = .returned (.int .i64 (idx (inA n) l)) ∧ Below w.heap.size w w' := by
  go_enter Try.func73, Try.ntmps73
  go_wp2
  go_loopw [8] (fun i wr => ∃ k : Nat, k ≤ l.length ∧ i = .int .i64 k ∧ Below w.heap.size w wr ∧ ∀ i (h : i < l.length), i < k → (inA n) l[i] = false) (fun i _ => l.length - (intOf i).toNat)
  case atStart => exact ⟨0, Nat.zero_le _, rfl, Below.refl _ _, fun i _ h => absurd h (Nat.not_lt_zero _)⟩
  case round =>
    obtain ⟨k, hk, rfl, hbr, hp0⟩ := hrel
    have hp := Lib.hid hp0
    clear hp0
    by_cases hlt : k < l.length
    · obtain ⟨b, off, rfl, c0, c1, c2, c3, c4, c5, c6⟩ := ar_at7 (hrd.below hbr) k hlt
      go_wp2_with fail
      refine (find1_any l[k] g n _ (hg.ext hbr)).mono ?_
      rintro e w2 ⟨rfl, hb2⟩
      have hbel2 := below_next hbr hb2
      clear hb2
      cases hpk : (inA n) l[k]
      · have hpk' := Lib.hid hpk
        clear hpk
        go_wp2
        go_roundw
        case rel => exact ⟨k + 1, by omega, by go_num, hbel2, upto' hp.out hlt hpk'.out⟩
        case measure => simp [intOf]; omega
      · have hfin := Lib.hid (idx_at (inA n) l k hlt hp.out hpk)
        clear hpk
        go_wp2
        go_ret
        exact ⟨ret_int hfin.out.symm, hbel2⟩
    · have hfin := Lib.hid (idx_none (inA n) l fun i h => hp.out i h (by omega))
      go_wp2
      go_ret
      exact ⟨ret_int hfin.out.symm, hbr⟩
set_option maxRecDepth 100000 in
theorem afind_any (l : List Ar) (n : Int) (a : Option Addr) (c : Nat) (w : World) (hrd : RdV w a (l.flatMap arL)) (hl : l.length ≤ 9223372036854775807) :
    Calls Try.prog 52 #[.slice a l.length c, .int .i64 n] w fun r w' => r = .returned (.int .i64 (findA l n)) ∧ Below w.heap.size w w' := by
  go_enter Try.func52, Try.ntmps52
  go_upto_region 1 with (fail)
  refine abs1 (fun W => Code.wp _ _ _ _ W) fun W0 hb0 hx0 hs0 => ?_
  clear hs0
  go_wp2_with fail
  refine (idxfind_any l a c _ (hrd.below hb0) hl w.heap.size n hx0).mono ?_
  rintro r w1 ⟨rfl, hb1⟩
  go_wp2
  go_ret
  exact ⟨rfl, below_next hb0 hb1⟩
/-- Map's tests: an area that another one meets; one that begins behind another. -/
def meetsA (b a : Ar) : Bool := decide (a.fr < b.en) && decide (b.fr < a.en)
def behindA (b a : Ar) : Bool := decide (b.fr < a.fr)
set_option maxRecDepth 100000 in
theorem map1_any (a b : Ar) (g : Nat) (w : World) (hg : Blk w g (arC b) 66) :
    Calls Try.prog 72 #[.agg #[.int .i64 a.fr, .int .i64 a.en, .bool a.rd, .bool a.wr, .bool a.sh, .int .i64 a.fi, .int .i64 a.ba], .pointer (some ⟨g, 0, none⟩)] w fun r w' => r = .returned (.bool (meetsA b a)) ∧ Below w.heap.size w w' := by
  go_enter Try.func72, Try.ntmps72
  go_upto_region 1 with (fail)
  refine abs1 (fun W => Code.wp _ _ _ _ W) fun W0 hb0 hx0 hs0 => ?_
  clear hs0
  have hgx := (hg.ext hb0).cell
  unfold arC at hgx
  have hcx := hx0.cell
  by_cases h1 : a.fr < b.en
  · by_cases h2 : b.fr < a.en
    · have hz := Lib.hid (show meetsA b a = true by unfold meetsA; rw [decide_eq_true h1, decide_eq_true h2]; rfl)
      go_wp2
      go_ret
      exact ⟨ret_bool hz.out.symm, hb0⟩
    · have hz := Lib.hid (show meetsA b a = false by unfold meetsA; rw [decide_eq_false h2, Bool.and_false])
      go_wp2
      go_ret
      exact ⟨ret_bool hz.out.symm, hb0⟩
  · have hz := Lib.hid (show meetsA b a = false by unfold meetsA; rw [decide_eq_false h1, Bool.false_and])
    go_wp2
    go_ret
    exact ⟨ret_bool hz.out.symm, hb0⟩
set_option maxRecDepth 100000 in
theorem map2_any (a b : Ar) (g : Nat) (w : World) (hg : Blk w g (arC b) 66) :
    Calls Try.prog 74 #[.agg #[.int .i64 a.fr, .int .i64 a.en, .bool a.rd, .bool a.wr, .bool a.sh, .int .i64 a.fi, .int .i64 a.ba], .pointer (some ⟨g, 0, none⟩)] w fun r w' => r = .returned (.bool (behindA b a)) ∧ Below w.heap.size w w' := by
  go_enter Try.func74, Try.ntmps74
  go_upto_region 1 with (fail)
  refine abs1 (fun W => Code.wp _ _ _ _ W) fun W0 hb0 hx0 hs0 => ?_
  clear hs0
  have hgx := (hg.ext hb0).cell
  unfold arC at hgx
  have hcx := hx0.cell
  go_wp2
  go_ret
  exact ⟨rfl, hb0⟩
set_option maxHeartbeats 1000000 in
set_option maxRecDepth 100000 in
theorem idxmeet_any (l : List Ar) (a : Option Addr) (c : Nat) (w : World) (hrd : RdV w a (l.flatMap arL)) (hl : l.length ≤ 9223372036854775807) (g : Nat) (x : Ar) (hg : Blk w g (arC x) 66) :
    Calls Try.prog 73 #[.slice a l.length c, .func (.func 72) #[] #[.pointer (some ⟨g, 0, none⟩)]] w fun e w' => e = .returned (.int .i64 (idx (meetsA x) l)) ∧ Below w.heap.size w w' := by
  go_enter Try.func73, Try.ntmps73
  go_wp2
  go_loopw [8] (fun i wr => ∃ k : Nat, k ≤ l.length ∧ i = .int .i64 k ∧ Below w.heap.size w wr ∧ ∀ i (h : i < l.length), i < k → (meetsA x) l[i] = false) (fun i _ => l.length - (intOf i).toNat)
  case atStart => exact ⟨0, Nat.zero_le _, rfl, Below.refl _ _, fun i _ h => absurd h (Nat.not_lt_zero _)⟩
  case round =>
    obtain ⟨k, hk, rfl, hbr, hp0⟩ := hrel
    have hp := Lib.hid hp0
    clear hp0
    by_cases hlt : k < l.length
    · obtain ⟨b, off, rfl, c0, c1, c2, c3, c4, c5, c6⟩ := ar_at7 (hrd.below hbr) k hlt
      go_wp2_with fail
      refine (map1_any l[k] x g _ (hg.ext hbr)).mono ?_
      rintro e w2 ⟨rfl, hb2⟩
      have hbel2 := below_next hbr hb2
      clear hb2
      cases hpk : (meetsA x) l[k]
      · have hpk' := Lib.hid hpk
        clear hpk
        go_wp2
        go_roundw
        case rel => exact ⟨k + 1, by omega, by go_num, hbel2, upto' hp.out hlt hpk'.out⟩
        case measure => simp [intOf]; omega
      · have hfin := Lib.hid (idx_at (meetsA x) l k hlt hp.out hpk)
        clear hpk
        go_wp2
        go_ret
        exact ⟨ret_int hfin.out.symm, hbel2⟩
    · have hfin := Lib.hid (idx_none (meetsA x) l fun i h => hp.out i h (by omega))
      go_wp2
      go_ret
      exact ⟨ret_int hfin.out.symm, hbr⟩
set_option maxHeartbeats 400000 in
theorem conmeet_any (l : List Ar) (a : Option Addr) (c : Nat) (w : World) (hrd : RdV w a (l.flatMap arL)) (hl : l.length ≤ 9223372036854775807) (g : Nat) (x : Ar) (hg : Blk w g (arC x) 66) :
    Calls Try.prog 71 #[.slice a l.length c, .func (.func 72) #[] #[.pointer (some ⟨g, 0, none⟩)]] w fun e w' => e = .returned (.bool (l.any (meetsA x))) ∧ Below w.heap.size w w' := by
  go_enter Try.func71, Try.ntmps71
  go_wp2_with fail
  refine (idxmeet_any l a c _ hrd hl g x hg).mono ?_
  rintro e w2 ⟨rfl, hb2⟩
  go_wp2
  go_ret
  exact ⟨ret_bool (idx_any _ _), hb2⟩
set_option maxHeartbeats 1000000 in
set_option maxRecDepth 100000 in
theorem idxbehind_any (l : List Ar) (a : Option Addr) (c : Nat) (w : World) (hrd : RdV w a (l.flatMap arL)) (hl : l.length ≤ 9223372036854775807) (g : Nat) (x : Ar) (hg : Blk w g (arC x) 66) :
    Calls Try.prog 73 #[.slice a l.length c, .func (.func 74) #[] #[.pointer (some ⟨g, 0, none⟩)]] w fun e w' => e = .returned (.int .i64 (idx (behindA x) l)) ∧ Below w.heap.size w w' := by
  go_enter Try.func73, Try.ntmps73
  go_wp2
  go_loopw [8] (fun i wr => ∃ k : Nat, k ≤ l.length ∧ i = .int .i64 k ∧ Below w.heap.size w wr ∧ ∀ i (h : i < l.length), i < k → (behindA x) l[i] = false) (fun i _ => l.length - (intOf i).toNat)
  case atStart => exact ⟨0, Nat.zero_le _, rfl, Below.refl _ _, fun i _ h => absurd h (Nat.not_lt_zero _)⟩
  case round =>
    obtain ⟨k, hk, rfl, hbr, hp0⟩ := hrel
    have hp := Lib.hid hp0
    clear hp0
    by_cases hlt : k < l.length
    · obtain ⟨b, off, rfl, c0, c1, c2, c3, c4, c5, c6⟩ := ar_at7 (hrd.below hbr) k hlt
      go_wp2_with fail
      refine (map2_any l[k] x g _ (hg.ext hbr)).mono ?_
      rintro e w2 ⟨rfl, hb2⟩
      have hbel2 := below_next hbr hb2
      clear hb2
      cases hpk : (behindA x) l[k]
      · have hpk' := Lib.hid hpk
        clear hpk
        go_wp2
        go_roundw
        case rel => exact ⟨k + 1, by omega, by go_num, hbel2, upto' hp.out hlt hpk'.out⟩
        case measure => simp [intOf]; omega
      · have hfin := Lib.hid (idx_at (behindA x) l k hlt hp.out hpk)
        clear hpk
        go_wp2
        go_ret
        exact ⟨ret_int hfin.out.symm, hbel2⟩
    · have hfin := Lib.hid (idx_none (behindA x) l fun i h => hp.out i h (by omega))
      go_wp2
      go_ret
      exact ⟨ret_int hfin.out.symm, hbr⟩
/-- What is wrong with so many pages from one on. -/
def spanE (at_ n : Int) : Int := if at_ < 0 ∨ n < 1 ∨ 64 ≤ at_ ∨ 64 - at_ < n then 3 else 0
theorem span_any (s n : Int) (w : World) (hs : -9223372036854775808 ≤ s ∧ s ≤ 9223372036854775807) :
    Calls Try.prog 80 #[.int .i64 s, .int .i64 n] w fun r w' => r = .returned (.int .i64 (spanE s n)) ∧ w = w' := by
  go_enter Try.func80, Try.ntmps80
  by_cases h1 : s < 0
  · have hz := Lib.hid (show spanE s n = 3 by unfold spanE; rw [if_pos (by omega)])
    go_wp2
    go_ret
    exact ⟨ret_int hz.out.symm, rfl⟩
  · by_cases h2 : n < 1
    · have hz := Lib.hid (show spanE s n = 3 by unfold spanE; rw [if_pos (by omega)])
      go_wp2
      go_ret
      exact ⟨ret_int hz.out.symm, rfl⟩
    · by_cases h3 : 64 ≤ s
      · have hz := Lib.hid (show spanE s n = 3 by unfold spanE; rw [if_pos (by omega)])
        go_wp2
        go_ret
        exact ⟨ret_int hz.out.symm, rfl⟩
      · have hw : IntKind.i64.wrap (64 - s) = 64 - s := IntWalk.i64_in _ (by omega)
        by_cases h4 : 64 - s < n
        · have hz := Lib.hid (show spanE s n = 3 by unfold spanE; rw [if_pos (by omega)])
          go_wp2
          go_ret
          exact ⟨ret_int hz.out.symm, rfl⟩
        · have hz := Lib.hid (show spanE s n = 0 by unfold spanE; rw [if_neg (by omega)])
          go_wp2
          go_ret
          exact ⟨ret_int hz.out.symm, rfl⟩
end Go.Proofs.Ytmdnmknmniabeaa
