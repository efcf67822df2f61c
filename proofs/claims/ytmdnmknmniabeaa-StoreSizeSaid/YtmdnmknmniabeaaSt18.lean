/- Stores, plain: a block given to a page. No program in sight. -/
import Derived.Test.YtmdnmknmniabeaaSt17
import Derived.Test.YtmdnmknmniabeaaSt9
namespace Go.Proofs.Ytmdnmknmniabeaa
open Go.RowKit Go.Maps Pw
set_option linter.unusedSimpArgs false
set_option linter.unusedVariables false

theorem set_split {α : Type} {l : List α} {i : Nat} {x : α} (h : l[i]? = some x) (y : α) : l = l.take i ++ x :: l.drop (i + 1) ∧ l.set i y = l.take i ++ y :: l.drop (i + 1) := by
  obtain ⟨hi, rfl⟩ := List.getElem?_eq_some_iff.1 h
  refine ⟨?_, ?_⟩
  · rw [List.getElem_cons_drop, List.take_append_drop]
  · rw [List.set_eq_take_append_cons_drop, if_pos hi]
theorem posB_neg {x : Int} (h : x < 0) (l : List Int) : posB (x :: l) = posB l := by unfold posB; rw [List.filter_cons, if_neg (by simp; omega)]
theorem posB_nn {x : Int} (h : 0 ≤ x) (l : List Int) : posB (x :: l) = x :: posB l := by unfold posB; rw [List.filter_cons, if_pos (by simpa using h)]
theorem posB_put {s : St} {F I : Nat} {f : Fi} (hf : s.fs[F]? = some f) {v : Int} (hv : f.b[I]? = some v) (hn : v < 0) {X : Int} (hX : 0 ≤ X) (n c : Int) :
    (posB (blks ⟨s.fs.set F ⟨n, f.b.set I X⟩, c⟩)).Perm (X :: posB (blks s)) := by
  have e1 := set_split hf ⟨n, f.b.set I X⟩
  have e2 := set_split hv X
  unfold blks
  show (posB ((s.fs.set F ⟨n, f.b.set I X⟩).flatMap Fi.b)).Perm (X :: posB (s.fs.flatMap Fi.b))
  rw [e1.2]
  conv => rhs; rw [e1.1]
  simp only [List.flatMap_append, List.flatMap_cons, posB_app]
  rw [e2.2]
  conv => rhs; rw [show f.b = f.b.take I ++ v :: f.b.drop (I + 1) from e2.1]
  simp only [posB_app, posB_neg hn, posB_nn hX]
  refine List.Perm.trans ?_ List.perm_middle
  refine List.Perm.append_left _ ?_
  rw [List.append_assoc, List.append_assoc]
  exact List.perm_middle
theorem freeSt_ok {s : St} (h : 0 ≤ freeSt s) : freeSt s < s.count ∧ usedSt s (freeSt s) = false := by
  unfold freeSt at h ⊢
  cases hf : (List.range s.count.toNat).find? (fun b : Nat => !usedSt s b) with
  | none => rw [hf] at h; simp at h
  | some b =>
    have h1 := List.mem_range.1 (List.mem_of_find?_eq_some hf)
    have h2 := List.find?_some hf
    simp only
    refine ⟨by omega, by simpa using h2⟩
theorem freeSt_all {s : St} (h : freeSt s < 0) (b : Nat) (hb : (b : Int) < s.count) : usedSt s b = true := by
  unfold freeSt at h
  cases hf : (List.range s.count.toNat).find? (fun b : Nat => !usedSt s b) with
  | none =>
    have := List.find?_eq_none.1 hf b (List.mem_range.2 (by omega))
    simpa using this
  | some c =>
    rw [hf] at h
    simp only at h
    omega
theorem block_parts {s : St} {k i : Int} (h : blockE s k i = 0) : wrongSt s = 0 ∧ ∃ (F I : Nat) (f : Fi) (v : Int), k = F ∧ i = I ∧ s.fs[F]? = some f ∧ f.b[I]? = some v ∧ fileAt s k = f ∧ blockAt s k i = v ∧
    ((0 ≤ v ∧ blockS s k i = s ∧ blockN s k i = v) ∨ (v < 0 ∧ 0 ≤ freeSt s ∧ blockN s k i = freeSt s ∧ blockS s k i = ⟨s.fs.set F ⟨f.n, f.b.set I (freeSt s)⟩, s.count⟩)) := by
  have h' := h
  unfold blockE at h'
  by_cases g1 : wrongSt s ≠ 0
  · rw [if_pos g1] at h'; exact absurd h' g1
  rw [if_neg g1] at h'
  by_cases g2 : k < 0 ∨ (s.fs.length : Int) ≤ k
  · rw [if_pos g2] at h'; cases h'
  rw [if_neg g2] at h'
  by_cases g3 : i < 0 ∨ ((fileAt s k).b.length : Int) ≤ i
  · rw [if_pos g3] at h'; cases h'
  rw [if_neg g3] at h'
  by_cases g4 : blockAt s k i < 0 ∧ freeSt s < 0
  · rw [if_pos g4] at h'; cases h'
  obtain ⟨F, rfl⟩ := Int.eq_ofNat_of_zero_le (show 0 ≤ k by omega)
  obtain ⟨I, rfl⟩ := Int.eq_ofNat_of_zero_le (show 0 ≤ i by omega)
  have hF : F < s.fs.length := by omega
  have hfa : fileAt s F = s.fs[F] := by
    unfold fileAt
    rw [if_pos (by omega), Int.toNat_natCast, List.getD_eq_getElem?_getD, List.getElem?_eq_getElem hF]
    rfl
  rw [hfa] at g3
  have hI : I < s.fs[F].b.length := by omega
  have hba : blockAt s F I = s.fs[F].b[I] := by
    unfold blockAt
    rw [hfa, Int.toNat_natCast, List.getD_eq_getElem?_getD, List.getElem?_eq_getElem hI]
    rfl
  refine ⟨Classical.not_not.1 g1, F, I, s.fs[F], s.fs[F].b[I], rfl, rfl, List.getElem?_eq_getElem hF, List.getElem?_eq_getElem hI, hfa, hba, ?_⟩
  have hS : blockS s F I = if blockAt s F I < 0 then withFile s F ⟨(fileAt s F).n, (fileAt s F).b.set ((I : Int)).toNat (freeSt s)⟩ else s := by unfold blockS; rw [if_neg (by rw [h]; simp)]
  have hN : blockN s F I = if blockAt s F I < 0 then freeSt s else blockAt s F I := by unfold blockN; rw [if_neg (by rw [h]; simp)]
  rw [hS, hN, hba]
  rw [hba] at g4
  by_cases g5 : s.fs[F].b[I] < 0
  · refine .inr ⟨g5, by omega, if_pos g5, ?_⟩
    rw [if_pos g5, hfa, Int.toNat_natCast]
    unfold withFile
    rw [Int.toNat_natCast]
  · exact .inl ⟨by omega, if_neg g5, if_neg g5⟩
theorem unused {s : St} {x : Int} (h : usedSt s x = false) : ¬ x ∈ blks s := by
  unfold usedSt at h
  simpa using h
/-- A block in place: whatever was asked, it is that block, and nothing turns. -/
theorem block_has {s : St} {F I : Nat} {f : Fi} {v : Int} (h : wrongSt s = 0) (hf : s.fs[F]? = some f) (hv : f.b[I]? = some v) (h0 : 0 ≤ v) : blockE s F I = 0 ∧ blockN s F I = v ∧ blockS s F I = s := by
  have hF := (List.getElem?_eq_some_iff.1 hf).1
  have hI := (List.getElem?_eq_some_iff.1 hv).1
  have hfa : fileAt s F = f := by
    unfold fileAt
    rw [if_pos (by omega), Int.toNat_natCast, List.getD_eq_getElem?_getD, hf]
    rfl
  have hba : blockAt s F I = v := by
    unfold blockAt
    rw [hfa, Int.toNat_natCast, List.getD_eq_getElem?_getD, hv]
    rfl
  have hE : blockE s F I = 0 := by
    unfold blockE
    rw [if_neg (by rw [h]; simp), if_neg (by omega), hfa, if_neg (by omega), hba, if_neg (by omega)]
  refine ⟨hE, ?_, ?_⟩
  · unfold blockN; rw [if_neg (by rw [hE]; simp), hba, if_neg (by omega)]
  · unfold blockS; rw [if_neg (by rw [hE]; simp), hba, if_neg (by omega)]
theorem block_put_right {s : St} (h : wrongSt s = 0) {F I : Nat} {f : Fi} {v : Int} (hf : s.fs[F]? = some f) (hv : f.b[I]? = some v) (hn : v < 0) {X : Int} (hX : 0 ≤ X) (hXc : X < s.count) (hu : usedSt s X = false) :
    wrongSt ⟨s.fs.set F ⟨f.n, f.b.set I X⟩, s.count⟩ = 0 := by
  obtain ⟨h1, h2, h3⟩ := wrongSt_iff.1 h
  have hok := h2 f (List.mem_of_getElem? hf)
  refine wrongSt_iff.2 ⟨by simpa using h1, fun g hg => ?_, ?_⟩
  · rcases List.mem_or_eq_of_mem_set hg with hg | rfl
    · exact h2 g hg
    · refine ⟨hok.1, hok.2.1, by simpa using hok.2.2.1, fun b hb => ?_⟩
      rcases List.mem_or_eq_of_mem_set hb with hb | rfl
      · exact hok.2.2.2 b hb
      · show -1 ≤ b ∧ b < s.count
        omega
  · exact (posB_put hf hv hn hX f.n s.count).nodup_iff.2 (List.nodup_cons.2 ⟨fun hm => unused hu (mem_posB.1 hm).1, h3⟩)
theorem block_after {s : St} {k i : Int} (h : blockE s k i = 0) : wrongSt (blockS s k i) = 0 ∧ blockE (blockS s k i) k i = 0 ∧ blockN (blockS s k i) k i = blockN s k i ∧ blockS (blockS s k i) k i = blockS s k i ∧
    ((0 ≤ blockAt s k i ∧ blockS s k i = s) ∨ (blockAt s k i < 0 ∧ usedSt s (blockN s k i) = false ∧ leftSt (blockS s k i) = leftSt s - 1)) := by
  obtain ⟨hw, F, I, f, v, rfl, rfl, hf, hv, hfa, hba, hc⟩ := block_parts h
  rcases hc with ⟨h0, hS, hN⟩ | ⟨hn, h0, hN, hS⟩
  · rw [hS]
    exact ⟨hw, h, rfl, hS, .inl ⟨by rw [hba]; exact h0, rfl⟩⟩
  · obtain ⟨hXc, hu⟩ := freeSt_ok h0
    have hw' := block_put_right hw hf hv hn h0 hXc hu
    have hF := (List.getElem?_eq_some_iff.1 hf).1
    have hI := (List.getElem?_eq_some_iff.1 hv).1
    have hb := block_has (F := F) (I := I) (f := ⟨f.n, f.b.set I (freeSt s)⟩) (v := freeSt s) hw' (List.getElem?_set_self hF) (List.getElem?_set_self hI) h0
    rw [hS, hN]
    refine ⟨hw', hb.1, hb.2.1, hb.2.2, .inr ⟨by rw [hba]; exact hn, hu, ?_⟩⟩
    have hp := (posB_put hf hv hn h0 f.n s.count).length_eq
    unfold leftSt
    show s.count - ((posB _).length : Int) = s.count - ((posB _).length : Int) - 1
    rw [hp, List.length_cons]
    omega
theorem cntB_posB (l : List Int) : cntB l = (posB l).length := rfl
end Go.Proofs.Ytmdnmknmniabeaa
