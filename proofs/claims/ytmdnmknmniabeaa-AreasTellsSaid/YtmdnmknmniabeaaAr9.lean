/- Plain laws of areas: page by page. -/
import Derived.Test.YtmdnmknmniabeaaAr7
namespace Go.Proofs.Ytmdnmknmniabeaa
open Go.RowKit Pw
set_option linter.unusedSimpArgs false
set_option linter.unusedVariables false

/-- What a page in an area is. -/
structure Pg where
  rd : Bool
  wr : Bool
  sh : Bool
  fi : Int
  pg : Int
  deriving DecidableEq
def pgOf (a : Ar) (n : Int) : Pg := ⟨a.rd, a.wr, a.sh, a.fi, if 0 ≤ a.fi then a.ba + n - a.fr else 0⟩
def onA : List Ar → Int → Option Pg
  | [], _ => none
  | a :: r, n => if inA n a then some (pgOf a n) else onA r n
theorem inA_iff {n : Int} {a : Ar} : inA n a = true ↔ a.fr ≤ n ∧ n < a.en := by unfold inA; simp
theorem onA_cons (a : Ar) (r : List Ar) (n : Int) : onA (a :: r) n = if inA n a then some (pgOf a n) else onA r n := rfl
theorem onA_app (l m : List Ar) (n : Int) : onA (l ++ m) n = (onA l n).or (onA m n) := by
  induction l with
  | nil => simp [onA]
  | cons a r ih => rw [List.cons_append, onA_cons, onA_cons]; split <;> simp [ih]
/-- Right, rising, none reaches into the next one. -/
def srtF : Int → List Ar → Prop
  | _, [] => True
  | lo, a :: r => areaE a = 0 ∧ lo ≤ a.fr ∧ srtF a.en r
theorem srtF_mono : ∀ {l : List Ar} {lo lo' : Int}, srtF lo l → lo' ≤ lo → srtF lo' l
  | [], _, _, _, _ => trivial
  | a :: r, _, _, h, hl => ⟨h.1, by have := h.2.1; omega, h.2.2⟩
theorem srtF_ok : ∀ {l : List Ar} {lo : Int}, srtF lo l → ∀ a ∈ l, areaE a = 0 ∧ lo ≤ a.fr
  | b :: r, lo, h, a, ha => by
    rcases List.mem_cons.1 ha with rfl | ha
    · exact ⟨h.1, h.2.1⟩
    · have h1 := srtF_ok h.2.2 a ha
      have h2 := (areaE_few h.1).2.1
      have h3 := h.2.1
      exact ⟨h1.1, by omega⟩
theorem srtF_app : ∀ {l m : List Ar} {lo mid : Int}, srtF lo l → (∀ a ∈ l, a.en ≤ mid) → lo ≤ mid → srtF mid m → srtF lo (l ++ m)
  | [], m, lo, mid, _, _, hm, h => srtF_mono h hm
  | a :: r, m, lo, mid, h, ha, hm, h2 => ⟨h.1, h.2.1, srtF_app h.2.2 (fun x hx => ha x (List.mem_cons_of_mem _ hx)) (ha a List.mem_cons_self) h2⟩
theorem on_low : ∀ {l : List Ar} {lo n : Int}, srtF lo l → n < lo → onA l n = none
  | [], _, _, _, _ => rfl
  | a :: r, lo, n, h, hn => by
    have h1 := h.2.1
    have h2 := (areaE_few h.1).2.1
    rw [onA_cons, if_neg (by rw [inA_iff]; omega)]
    exact on_low h.2.2 (by omega)
/-- .. and none only goes on with the one ahead. -/
def okF (p : Option Ar) : List Ar → Prop
  | [] => True
  | a :: r => areaE a = 0 ∧ badOn p a = false ∧ okF (some a) r
theorem bad_some {q a : Ar} : badOn (some q) a = false ↔ q.en ≤ a.fr ∧ joinsB q a = false := by
  unfold badOn
  simp
theorem okF_srt : ∀ {l : List Ar} {q : Ar}, okF (some q) l → srtF q.en l
  | [], _, _ => trivial
  | a :: r, q, h => ⟨h.1, (bad_some.1 h.2.1).1, okF_srt h.2.2⟩
theorem okF_srt0 {l : List Ar} (h : okF none l) : srtF 0 l := by
  match l, h with
  | [], _ => trivial
  | a :: r, h => exact ⟨h.1, by have := (areaE_few h.1).1.2.1.1; exact this, okF_srt h.2.2⟩
theorem okF_none {p : Option Ar} {l : List Ar} (h : okF p l) : okF none l := by
  match l, h with
  | [], _ => trivial
  | a :: r, h => exact ⟨h.1, rfl, h.2.2⟩
theorem wrongAt_iff : ∀ {l : List Ar} {p : Option Ar} {i : Nat}, (wrongAt p i l).1 = 0 ↔ okF p l
  | [], _, _ => ⟨fun _ => trivial, fun _ => rfl⟩
  | a :: r, p, i => by
    rw [wrongAt_cons]
    by_cases h : areaE a = 0
    · rw [if_neg (by rw [h]; simp)]
      cases hb : badOn p a
      · rw [if_neg (by simp), wrongAt_iff]
        exact ⟨fun h2 => ⟨h, hb, h2⟩, fun h2 => h2.2.2⟩
      · rw [if_pos rfl]
        refine ⟨fun h2 => absurd (show (2 : Int) = 0 from h2) (by decide), fun h2 => ?_⟩
        have h3 := h2.2.1
        rw [hb] at h3
        cases h3
    · rw [if_pos h]
      exact ⟨fun h2 => absurd h2 h, fun h2 => absurd h2.1 h⟩
theorem wrongAt_zero : ∀ {l : List Ar} {p : Option Ar} {i : Nat}, okF p l → wrongAt p i l = (0, 0)
  | [], _, _, _ => rfl
  | a :: r, p, i, h => by
    rw [wrongAt_cons, if_neg (by rw [h.1]; simp), if_neg (by rw [h.2.1]; simp)]
    exact wrongAt_zero h.2.2
theorem wrongA_iff {l : List Ar} : (wrongA l).1 = 0 ↔ l.length ≤ 16 ∧ okF none l := by
  unfold wrongA
  by_cases h : 16 < l.length
  · rw [if_pos h]
    exact ⟨fun h2 => absurd (show (4 : Int) = 0 from h2) (by decide), fun h2 => by omega⟩
  · rw [if_neg h, wrongAt_iff]
    exact ⟨fun h2 => ⟨by omega, h2⟩, fun h2 => h2.2⟩
theorem joins_iff {q a : Ar} : joinsB q a = true ↔ q.en = a.fr ∧ q.rd = a.rd ∧ q.wr = a.wr ∧ q.sh = a.sh ∧ q.fi = a.fi ∧ a.ba = baseOn q := by
  unfold joinsB
  simp [and_assoc]
theorem joins_pg {q a : Ar} (h : joinsB q a = true) (n : Int) : pgOf a n = pgOf q n := by
  obtain ⟨h1, h2, h3, h4, h5, h6⟩ := joins_iff.1 h
  unfold pgOf baseOn at *
  rw [← h2, ← h3, ← h4, ← h5]
  split
  · rename_i hf; rw [h6, if_pos hf]; congr 1; omega
  · rfl
/-- WHAT EACH PAGE IS TELLS THE AREAS. -/
theorem on_uniq : ∀ {l m : List Ar} {p q : Option Ar}, okF p l → okF q m → (∀ n, onA l n = onA m n) → l = m
  | [], [], _, _, _, _, _ => rfl
  | [], b :: s, _, _, _, hm, h => by
    have := h b.fr
    rw [onA_cons, if_pos (inA_iff.2 ⟨Int.le_refl _, (areaE_few hm.1).2.1⟩)] at this
    cases this
  | a :: r, [], _, _, hl, _, h => by
    have := h a.fr
    rw [onA_cons, if_pos (inA_iff.2 ⟨Int.le_refl _, (areaE_few hl.1).2.1⟩)] at this
    cases this
  | a :: r, b :: s, p, q, hl, hm, h => by
    have ea := areaE_few hl.1
    have eb := areaE_few hm.1
    have sr := okF_srt hl.2.2
    have ss := okF_srt hm.2.2
    have half : ∀ {a b : Ar} {r s : List Ar}, areaE a = 0 → areaE b = 0 → srtF a.en r → srtF b.en s → (∀ n, onA (a :: r) n = onA (b :: s) n) → ¬ a.fr < b.fr := by
      intro a b r s ha hb hr hs h hlt
      have h1 := h a.fr
      have h2 := (areaE_few ha).2.1
      have h3 := (areaE_few hb).2.1
      rw [onA_cons, if_pos (inA_iff.2 ⟨Int.le_refl _, h2⟩), onA_cons, if_neg (by rw [inA_iff]; omega), on_low hs (by omega)] at h1
      cases h1
    have hfr : a.fr = b.fr := by
      have h1 := half hl.1 hm.1 sr ss h
      have h2 := half hm.1 hl.1 ss sr (fun n => (h n).symm)
      omega
    have h1 := h a.fr
    rw [onA_cons, if_pos (inA_iff.2 ⟨Int.le_refl _, ea.2.1⟩), onA_cons, if_pos (inA_iff.2 ⟨by omega, by have := eb.2.1; omega⟩)] at h1
    have hpg := Option.some.inj h1
    unfold pgOf at hpg
    simp only [Pg.mk.injEq] at hpg
    obtain ⟨g1, g2, g3, g4, g5⟩ := hpg
    have hba : a.ba = b.ba := by
      by_cases hf : 0 ≤ a.fi
      · rw [if_pos hf, if_pos (by omega)] at g5; omega
      · rw [(ea.2.2.2.2.1 (by omega)).1, (eb.2.2.2.2.1 (by omega)).1]
    have half2 : ∀ {a b : Ar} {r s : List Ar}, areaE a = 0 → areaE b = 0 → okF (some a) r → a.fr = b.fr → a.rd = b.rd → a.wr = b.wr → a.sh = b.sh → a.fi = b.fi → a.ba = b.ba → (∀ n, onA (a :: r) n = onA (b :: s) n) → ¬ a.en < b.en := by
      intro a b r s ha hb hr k1 k2 k3 k4 k5 k6 h hlt
      have h1 := h a.en
      have h2 := (areaE_few ha).2.1
      rw [onA_cons, if_neg (by rw [inA_iff]; omega), onA_cons, if_pos (inA_iff.2 ⟨by omega, hlt⟩)] at h1
      match r, hr with
      | [], _ => cases h1
      | c :: t, hr =>
        have hc := bad_some.1 hr.2.1
        rw [onA_cons] at h1
        split at h1
        · rename_i hin
          rw [inA_iff] at hin
          have hp := Option.some.inj h1
          unfold pgOf at hp
          simp only [Pg.mk.injEq] at hp
          obtain ⟨g1, g2, g3, g4, g5⟩ := hp
          have : joinsB a c = true := by
            rw [joins_iff]
            refine ⟨by omega, by rw [k2, g1], by rw [k3, g2], by rw [k4, g3], by omega, ?_⟩
            unfold baseOn
            by_cases hf : 0 ≤ a.fi
            · rw [if_pos (by omega), if_pos (by omega)] at g5
              rw [if_pos hf]; omega
            · rw [if_neg hf]
              exact ((areaE_few hr.1).2.2.2.2.1 (by omega)).1
          rw [hc.2] at this
          cases this
        · rename_i hin
          rw [inA_iff] at hin
          have := (areaE_few hr.1).2.1
          rw [on_low (okF_srt hr.2.2) (by omega)] at h1
          cases h1
    have hen : a.en = b.en := by
      have h1 := half2 hl.1 hm.1 hl.2.2 hfr g1 g2 g3 g4 hba h
      have h2 := half2 hm.1 hl.1 hm.2.2 hfr.symm g1.symm g2.symm g3.symm g4.symm hba.symm (fun n => (h n).symm)
      omega
    have hab : a = b := by
      cases a; cases b
      simp_all
    subst hab
    congr 1
    refine on_uniq hl.2.2 hm.2.2 fun n => ?_
    have h1 := h n
    rw [onA_cons, onA_cons] at h1
    split at h1
    · rename_i hin
      rw [inA_iff] at hin
      rw [on_low sr (by omega), on_low ss (by omega)]
    · exact h1
end Go.Proofs.Ytmdnmknmniabeaa
