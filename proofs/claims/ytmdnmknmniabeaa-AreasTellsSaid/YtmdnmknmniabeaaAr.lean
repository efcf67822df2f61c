/- Areas as data; package areas' area, joins: what is wrong with one, whether one only goes on with another. -/
import Derived.Test.YtmdnmknmniabeaaRows
import Derived.Test.YtmdnmknmniabeaaIdx
import Derived.Test.YtmdnmknmniabeaaApp
import Derived.BigQuiet
import Derived.IntWalk
import Derived.Deep.QuietTactic
import Derived.Deep.DeepCutAuto
import Derived.Deep.Light
import Derived.Lib.Hide
namespace Go.Proofs.Ytmdnmknmniabeaa
open Go.RowKit Pw
set_option linter.unusedSimpArgs false
set_option linter.unusedVariables false

structure Ar where
  fr : Int
  en : Int
  rd : Bool
  wr : Bool
  sh : Bool
  fi : Int
  ba : Int
  deriving DecidableEq
def arC (a : Ar) : Array Value := #[.int .i64 a.fr, .int .i64 a.en, .bool a.rd, .bool a.wr, .bool a.sh, .int .i64 a.fi, .int .i64 a.ba]
def arL (a : Ar) : List Value := (arC a).toList
theorem arL_len (a : Ar) : (arL a).length = 7 := rfl
theorem arC_one (a : Ar) : (arC a).all (·.oneCell') = true := by simp [arC, Value.oneCell']
theorem area_size : (Try.prog.info? 66).map (·.size) = some 7 := by kernel_rfl
theorem area_info : (Try.prog.info? 66).map (fun i => (i.zero, i.size, i.bytes)) = some (some (.agg #[.int .i64 0, .int .i64 0, .bool false, .bool false, .bool false, .int .i64 0, .int .i64 0]), 7, 40) := by kernel_rfl
/-- An area lies at a place. -/
def ArAt (w : World) (b o : Nat) (a : Ar) : Prop := ∀ j u, (arL a)[j]? = some u → w.cell? ⟨b, o + j, none⟩ = some u
theorem ArAt.below {w w' : World} {b o : Nat} {a : Ar} (h : ArAt w b o a) (hb : Below w.heap.size w w') : ArAt w' b o a := fun j u hj => cell_later hb (h j u hj)
theorem ArAt.cells {w : World} {b o : Nat} {a : Ar} (h : ArAt w b o a) : w.cell? ⟨b, o, none⟩ = some (.int .i64 a.fr) ∧ w.cell? ⟨b, o + 1, none⟩ = some (.int .i64 a.en) ∧ w.cell? ⟨b, o + 2, none⟩ = some (.bool a.rd) ∧ w.cell? ⟨b, o + 3, none⟩ = some (.bool a.wr) ∧
    w.cell? ⟨b, o + 4, none⟩ = some (.bool a.sh) ∧ w.cell? ⟨b, o + 5, none⟩ = some (.int .i64 a.fi) ∧ w.cell? ⟨b, o + 6, none⟩ = some (.int .i64 a.ba) :=
  ⟨h 0 _ rfl, h 1 _ rfl, h 2 _ rfl, h 3 _ rfl, h 4 _ rfl, h 5 _ rfl, h 6 _ rfl⟩
def areaE (a : Ar) : Int := if a.fr < 0 ∨ a.en ≤ a.fr ∨ 64 < a.en ∨ a.fi < -1 ∨ 5 ≤ a.fi ∨ a.ba < 0 then 3 else if (a.fi < 0 ∧ (a.ba ≠ 0 ∨ a.sh = true)) ∨ 0 ≤ a.fi ∧ 12 - (a.en - a.fr) < a.ba then 7 else 0
set_option maxHeartbeats 2000000 in
set_option maxRecDepth 100000 in
theorem area_any (b o : Nat) (a : Ar) (w : World) (h : ArAt w b o a) :
    Calls Try.prog 67 #[.pointer (some ⟨b, o, none⟩)] w fun e w' => e = .returned (.int .i64 (areaE a)) ∧ Below w.heap.size w w' := by
  obtain ⟨h0, h1, h2, h3, h4, h5, h6⟩ := h.cells
  go_enter Try.func67, Try.ntmps67
  go_upto_region 1 with (fail)
  by_cases g1 : a.fr < 0
  · have hz : Hid (areaE a = 3) := Lib.hid (by unfold areaE; rw [if_pos (by omega)])
    go_quiet (fail)
    go_wp2
    go_ret
    exact ⟨ret_int hz.out.symm, below_drewN (Below.refl _ _) _⟩
  · by_cases g2 : a.en ≤ a.fr
    · have hz : Hid (areaE a = 3) := Lib.hid (by unfold areaE; rw [if_pos (by omega)])
      go_quiet (fail)
      go_wp2
      go_ret
      exact ⟨ret_int hz.out.symm, below_drewN (Below.refl _ _) _⟩
    · by_cases g3 : 64 < a.en
      · have hz : Hid (areaE a = 3) := Lib.hid (by unfold areaE; rw [if_pos (by omega)])
        go_quiet (fail)
        go_wp2
        go_ret
        exact ⟨ret_int hz.out.symm, below_drewN (Below.refl _ _) _⟩
      · by_cases g4 : a.fi < -1
        · have hz : Hid (areaE a = 3) := Lib.hid (by unfold areaE; rw [if_pos (by omega)])
          go_quiet (fail)
          go_wp2
          go_ret
          exact ⟨ret_int hz.out.symm, below_drewN (Below.refl _ _) _⟩
        · by_cases g5 : 5 ≤ a.fi
          · have hz : Hid (areaE a = 3) := Lib.hid (by unfold areaE; rw [if_pos (by omega)])
            go_quiet (fail)
            go_wp2
            go_ret
            exact ⟨ret_int hz.out.symm, below_drewN (Below.refl _ _) _⟩
          · by_cases g6 : a.ba < 0
            · have hz : Hid (areaE a = 3) := Lib.hid (by unfold areaE; rw [if_pos (by omega)])
              go_quiet (fail)
              go_wp2
              go_ret
              exact ⟨ret_int hz.out.symm, below_drewN (Below.refl _ _) _⟩
            · have hn1 : ¬ (a.fr < 0 ∨ a.en ≤ a.fr ∨ 64 < a.en ∨ a.fi < -1 ∨ 5 ≤ a.fi ∨ a.ba < 0) := by omega
              have hw1 : IntKind.i64.wrap (a.en - a.fr) = a.en - a.fr := IntWalk.i64_in _ (by omega)
              have hw2 : IntKind.i64.wrap (12 - (a.en - a.fr)) = 12 - (a.en - a.fr) := IntWalk.i64_in _ (by omega)
              go_quiet (fail)
              by_cases f1 : a.fi < 0
              · by_cases f2 : a.ba = 0
                · cases f3 : a.sh
                  · have hz : Hid (areaE a = 0) := Lib.hid (by unfold areaE; rw [if_neg hn1, if_neg (by rw [f3]; simp; omega)])
                    go_upto_region 4 with (fail)
                    have d0 : decide (0 ≤ a.fi) = false := decide_eq_false (by omega)
                    go_quiet (fail)
                    go_wp2
                    go_ret
                    exact ⟨ret_int hz.out.symm, below_drewN (Below.refl _ _) _⟩
                  · have hz : Hid (areaE a = 7) := Lib.hid (by unfold areaE; rw [if_neg hn1, if_pos (.inl ⟨f1, .inr f3⟩)])
                    go_wp2
                    go_ret
                    exact ⟨ret_int hz.out.symm, below_drewN (Below.refl _ _) _⟩
                · have hz : Hid (areaE a = 7) := Lib.hid (by unfold areaE; rw [if_neg hn1, if_pos (.inl ⟨f1, .inl f2⟩)])
                  have f2' : (a.ba != 0) = true := by simpa using f2
                  go_wp2
                  go_ret
                  exact ⟨ret_int hz.out.symm, below_drewN (Below.refl _ _) _⟩
              · have f1' : 0 ≤ a.fi := by omega
                by_cases f2 : 12 - (a.en - a.fr) < a.ba
                · have hz : Hid (areaE a = 7) := Lib.hid (by unfold areaE; rw [if_neg hn1, if_pos (.inr ⟨f1', f2⟩)])
                  go_upto_region 4 with (fail)
                  have d0 : decide (0 ≤ a.fi) = true := decide_eq_true (by omega)
                  go_quiet (fail)
                  go_wp2
                  go_ret
                  exact ⟨ret_int hz.out.symm, below_drewN (Below.refl _ _) _⟩
                · have hz : Hid (areaE a = 0) := Lib.hid (by unfold areaE; rw [if_neg hn1, if_neg (by omega)])
                  go_upto_region 4 with (fail)
                  have d0 : decide (0 ≤ a.fi) = true := decide_eq_true (by omega)
                  go_quiet (fail)
                  go_wp2
                  go_ret
                  exact ⟨ret_int hz.out.symm, below_drewN (Below.refl _ _) _⟩
/-- One only goes on with another. -/
def baseOn (a : Ar) : Int := if 0 ≤ a.fi then a.ba + a.en - a.fr else 0
def joinsB (a b : Ar) : Bool := a.en == b.fr && a.rd == b.rd && a.wr == b.wr && a.sh == b.sh && a.fi == b.fi && b.ba == baseOn a
def arFew (a : Ar) : Prop := (0 ≤ a.ba ∧ a.ba ≤ 12) ∧ (0 ≤ a.fr ∧ a.fr ≤ 64) ∧ 0 ≤ a.en ∧ a.en ≤ 64
theorem areaE_few {a : Ar} (h : areaE a = 0) : arFew a ∧ a.fr < a.en ∧ -1 ≤ a.fi ∧ a.fi < 5 ∧ (a.fi < 0 → a.ba = 0 ∧ a.sh = false) ∧ (0 ≤ a.fi → a.ba ≤ 12 - (a.en - a.fr)) := by
  unfold areaE at h
  split at h
  · omega
  · rename_i h1
    split at h
    · omega
    · rename_i h2
      have hs : a.fi < 0 → a.ba = 0 ∧ a.sh = false := fun hf => ⟨Decidable.byContradiction fun h => h2 (.inl ⟨hf, .inl h⟩), by
        cases hsh : a.sh
        · rfl
        · exact absurd (.inl ⟨hf, .inr hsh⟩) h2⟩
      have hb : 0 ≤ a.fi → a.ba ≤ 12 - (a.en - a.fr) := fun hf => by omega
      unfold arFew
      refine ⟨⟨⟨by omega, ?_⟩, by omega, by omega, by omega⟩, by omega, by omega, by omega, hs, hb⟩
      by_cases hf : a.fi < 0
      · have := (hs hf).1; omega
      · have := hb (by omega); omega
set_option maxHeartbeats 2000000 in
set_option maxRecDepth 100000 in
theorem joins_any (p q p' q' : Nat) (a b : Ar) (w : World) (h : ArAt w p q a) (h' : ArAt w p' q' b) (hs : arFew a) :
    Calls Try.prog 68 #[.pointer (some ⟨p, q, none⟩), .pointer (some ⟨p', q', none⟩)] w fun e w' => e = .returned (.bool (joinsB a b)) ∧ Below w.heap.size w w' := by
  obtain ⟨h0, h1, h2, h3, h4, h5, h6⟩ := h.cells
  obtain ⟨k0, k1, k2, k3, k4, k5, k6⟩ := h'.cells
  obtain ⟨s1, s2, s3⟩ := hs
  have hw1 : IntKind.i64.wrap (a.ba + a.en) = a.ba + a.en := IntWalk.i64_in _ (by omega)
  have hw2 : IntKind.i64.wrap (a.ba + a.en - a.fr) = a.ba + a.en - a.fr := IntWalk.i64_in _ (by omega)
  go_enter Try.func68, Try.ntmps68
  by_cases hf : 0 ≤ a.fi
  · go_upto_region 3 with (fail)
    go_quiet (fail)
    go_upto_region 4 with (fail)
    cases g1 : (a.en == b.fr)
    · have hz : Hid (joinsB a b = false) := Lib.hid (by unfold joinsB baseOn; rw [if_pos hf]; simp only [g1, Bool.true_and, Bool.false_and, Bool.and_false, Bool.and_true])
      go_quiet (fail)
      go_wp2
      go_ret
      exact ⟨ret_bool hz.out.symm, by first | exact below_drewN (Below.refl _ _) _ | exact below_drewN (below_drewN (Below.refl _ _) _) _⟩
    · cases g2 : (a.rd == b.rd)
      · have hz : Hid (joinsB a b = false) := Lib.hid (by unfold joinsB baseOn; rw [if_pos hf]; simp only [g1, g2, Bool.true_and, Bool.false_and, Bool.and_false, Bool.and_true])
        go_quiet (fail)
        go_wp2
        go_ret
        exact ⟨ret_bool hz.out.symm, by first | exact below_drewN (Below.refl _ _) _ | exact below_drewN (below_drewN (Below.refl _ _) _) _⟩
      · cases g3 : (a.wr == b.wr)
        · have hz : Hid (joinsB a b = false) := Lib.hid (by unfold joinsB baseOn; rw [if_pos hf]; simp only [g1, g2, g3, Bool.true_and, Bool.false_and, Bool.and_false, Bool.and_true])
          go_quiet (fail)
          go_wp2
          go_ret
          exact ⟨ret_bool hz.out.symm, by first | exact below_drewN (Below.refl _ _) _ | exact below_drewN (below_drewN (Below.refl _ _) _) _⟩
        · cases g4 : (a.sh == b.sh)
          · have hz : Hid (joinsB a b = false) := Lib.hid (by unfold joinsB baseOn; rw [if_pos hf]; simp only [g1, g2, g3, g4, Bool.true_and, Bool.false_and, Bool.and_false, Bool.and_true])
            go_quiet (fail)
            go_wp2
            go_ret
            exact ⟨ret_bool hz.out.symm, by first | exact below_drewN (Below.refl _ _) _ | exact below_drewN (below_drewN (Below.refl _ _) _) _⟩
          · cases g5 : (a.fi == b.fi)
            · have hz : Hid (joinsB a b = false) := Lib.hid (by unfold joinsB baseOn; rw [if_pos hf]; simp only [g1, g2, g3, g4, g5, Bool.true_and, Bool.false_and, Bool.and_false, Bool.and_true])
              go_quiet (fail)
              go_wp2
              go_ret
              exact ⟨ret_bool hz.out.symm, by first | exact below_drewN (Below.refl _ _) _ | exact below_drewN (below_drewN (Below.refl _ _) _) _⟩
            · cases g6 : (b.ba == (a.ba + a.en - a.fr))
              · have hz : Hid (joinsB a b = false) := Lib.hid (by unfold joinsB baseOn; rw [if_pos hf]; simp only [g1, g2, g3, g4, g5, g6, Bool.true_and, Bool.false_and, Bool.and_false, Bool.and_true])
                go_quiet (fail)
                go_wp2
                go_ret
                exact ⟨ret_bool hz.out.symm, by first | exact below_drewN (Below.refl _ _) _ | exact below_drewN (below_drewN (Below.refl _ _) _) _⟩
              · have hz : Hid (joinsB a b = true) := Lib.hid (by unfold joinsB baseOn; rw [if_pos hf]; simp only [g1, g2, g3, g4, g5, g6, Bool.true_and, Bool.false_and, Bool.and_false, Bool.and_true])
                go_quiet (fail)
                go_wp2
                go_ret
                exact ⟨ret_bool hz.out.symm, by first | exact below_drewN (Below.refl _ _) _ | exact below_drewN (below_drewN (Below.refl _ _) _) _⟩
  · go_upto_region 4 with (fail)
    cases g1 : (a.en == b.fr)
    · have hz : Hid (joinsB a b = false) := Lib.hid (by unfold joinsB baseOn; rw [if_neg hf]; simp only [g1, Bool.true_and, Bool.false_and, Bool.and_false, Bool.and_true])
      go_quiet (fail)
      go_wp2
      go_ret
      exact ⟨ret_bool hz.out.symm, by first | exact below_drewN (Below.refl _ _) _ | exact below_drewN (below_drewN (Below.refl _ _) _) _⟩
    · cases g2 : (a.rd == b.rd)
      · have hz : Hid (joinsB a b = false) := Lib.hid (by unfold joinsB baseOn; rw [if_neg hf]; simp only [g1, g2, Bool.true_and, Bool.false_and, Bool.and_false, Bool.and_true])
        go_quiet (fail)
        go_wp2
        go_ret
        exact ⟨ret_bool hz.out.symm, by first | exact below_drewN (Below.refl _ _) _ | exact below_drewN (below_drewN (Below.refl _ _) _) _⟩
      · cases g3 : (a.wr == b.wr)
        · have hz : Hid (joinsB a b = false) := Lib.hid (by unfold joinsB baseOn; rw [if_neg hf]; simp only [g1, g2, g3, Bool.true_and, Bool.false_and, Bool.and_false, Bool.and_true])
          go_quiet (fail)
          go_wp2
          go_ret
          exact ⟨ret_bool hz.out.symm, by first | exact below_drewN (Below.refl _ _) _ | exact below_drewN (below_drewN (Below.refl _ _) _) _⟩
        · cases g4 : (a.sh == b.sh)
          · have hz : Hid (joinsB a b = false) := Lib.hid (by unfold joinsB baseOn; rw [if_neg hf]; simp only [g1, g2, g3, g4, Bool.true_and, Bool.false_and, Bool.and_false, Bool.and_true])
            go_quiet (fail)
            go_wp2
            go_ret
            exact ⟨ret_bool hz.out.symm, by first | exact below_drewN (Below.refl _ _) _ | exact below_drewN (below_drewN (Below.refl _ _) _) _⟩
          · cases g5 : (a.fi == b.fi)
            · have hz : Hid (joinsB a b = false) := Lib.hid (by unfold joinsB baseOn; rw [if_neg hf]; simp only [g1, g2, g3, g4, g5, Bool.true_and, Bool.false_and, Bool.and_false, Bool.and_true])
              go_quiet (fail)
              go_wp2
              go_ret
              exact ⟨ret_bool hz.out.symm, by first | exact below_drewN (Below.refl _ _) _ | exact below_drewN (below_drewN (Below.refl _ _) _) _⟩
            · cases g6 : (b.ba == 0)
              · have hz : Hid (joinsB a b = false) := Lib.hid (by unfold joinsB baseOn; rw [if_neg hf]; simp only [g1, g2, g3, g4, g5, g6, Bool.true_and, Bool.false_and, Bool.and_false, Bool.and_true])
                go_quiet (fail)
                go_wp2
                go_ret
                exact ⟨ret_bool hz.out.symm, by first | exact below_drewN (Below.refl _ _) _ | exact below_drewN (below_drewN (Below.refl _ _) _) _⟩
              · have hz : Hid (joinsB a b = true) := Lib.hid (by unfold joinsB baseOn; rw [if_neg hf]; simp only [g1, g2, g3, g4, g5, g6, Bool.true_and, Bool.false_and, Bool.and_false, Bool.and_true])
                go_quiet (fail)
                go_wp2
                go_ret
                exact ⟨ret_bool hz.out.symm, by first | exact below_drewN (Below.refl _ _) _ | exact below_drewN (below_drewN (Below.refl _ _) _) _⟩
end Go.Proofs.Ytmdnmknmniabeaa
